import Derived.JoinedCond
import Derived.Deep.CondSized
import Derived.Laws.ComplexArith
import Derived.Lib.AppendStr
import Derived.Laws.IdiomStrings
import Derived.Laws.BytesArg
import Derived.MapKept
import Derived.DeepKeys4
import Derived.StringKeys
import Derived.Test.YtokccimmgilciaaW1
namespace Go.Proofs.Ytokccimmgilciaa
namespace S
open Go.RowKit Go.ChangeShapes Go.WideShapes
set_option linter.unusedVariables false
set_option linter.unusedSimpArgs false
section
variable {H:Type} {enc:TypeId×Value→H} {P:Program} {W:World}
theorem bulk_pos (d:DataW H):1≤Rows.uptoBulk d:=by
 cases d with
 | lit l=>cases l <;> simp [Rows.uptoBulk]
 | nil=>simp [Rows.uptoBulk]
 | ptr d=>simp [Rows.uptoBulk]
 | slice elems spare=>simp [Rows.uptoBulk]
 | agg parts=>simp [Rows.uptoBulk]
 | iface t d=>simp [Rows.uptoBulk]
 | map entries=>simp [Rows.uptoBulk]
 | held h=>simp [Rows.uptoBulk]
def OpnU {T:Type} (enc:TypeId×Value→H) (P:Program) (W:World) (t:TypeId) (c:Co T) (wf:T→Prop) (mu:T→Nat):Prop :=
 ∀ (n:Nat) (cs:List Value) (x:DataW H×List MemPlace),DataW.trod enc P W 0 (fun _=>true) true n t cs=some x→Fits P t x.1→∃ v,AllP (Zof W) W (c.e v) cs∧wf v∧mu v≤Rows.uptoBulk x.1
def muI (_:Int):Nat:=1
def muB (_:Bool):Nat:=1
def muS (s:ByteArray):Nat:=s.size+1
def muL {T:Type} (mu:T→Nat) (xs:List T):Nat:=(xs.map mu).sum+1
theorem ouI {t:TypeId} {k:IntKind} (ht:P.underlying t=some (.int k)):OpnU enc P W t (cI k) (wfI k) muI:=fun n cs x h hw=>by
 obtain ⟨v,h1,h2⟩:=opI ht n cs x h hw
 exact ⟨v,h1,h2,bulk_pos _⟩
theorem ouB {t:TypeId} (ht:P.underlying t=some .bool):OpnU enc P W t cB wfB muB:=fun n cs x h hw=>by
 obtain ⟨v,h1,h2⟩:=opB ht n cs x h hw
 exact ⟨v,h1,h2,bulk_pos _⟩
theorem ouS {t:TypeId} (ht:P.underlying t=some .string):OpnU enc P W t cS wfS muS:=fun n cs x h hw=>by
 cases n with
 | zero=>simp [DataW.trod] at h
 | succ n =>
  unfold DataW.trod at h
  rw [ht] at h
  split at h <;> first | (rename_i s _;split at h;simp only [Option.some.injEq] at h;subst h;exact ⟨s,.cons rfl .nil,(by simpa [Fits,DataW.weights,wfS] using hw),(by simp [muS,Rows.uptoBulk])⟩;cases h) | simp_all
theorem sum_bulk {T:Type} {mu:T→Nat}:∀ {xs:List T} {ds:List (DataW H)},xs.length=ds.length→(∀ (i:Nat) x d,xs[i]?=some x→ds[i]?=some d→mu x≤Rows.uptoBulk d)→(xs.map mu).sum≤Rows.uptoBulkAll ds
 | [],[],_,_=>by simp [Rows.uptoBulkAll]
 | x::xs,d::ds,hl,h=>by
  have h0:=h 0 x d rfl rfl
  have:=sum_bulk (xs:=xs) (ds:=ds) (by simpa using hl) fun i x d hx hd=>h (i+1) x d (by simpa using hx) (by simpa using hd)
  simp only [List.map_cons,List.sum_cons,Rows.uptoBulkAll]
  omega
theorem ouL {T:Type} {t e:TypeId} {c:Co T} {wf:T→Prop} {mu:T→Nat} {bytes:Nat} (ht:P.underlying t=some (.slice e)) (hs:P.cellsOf e=c.sz) (hb:P.bytesOf e=bytes) (ho:OpnU enc P W e c wf mu):OpnU enc P W t (cL c) (wfL wf bytes) (muL mu):=fun n cs x h hw=>by
 rcases Deep.open_slice ht h with ⟨rfl,rfl⟩ | ⟨a,len,cap,m,k,D,Pl,rfl,_,hl,hm,hmm,rfl,hx⟩
 ·exact ⟨[],.cons ⟨none,0,rfl,Nat.le_refl _,fun i x hx=>by simp at hx⟩ .nil,⟨by simp,by simp⟩,by simpa [muL] using bulk_pos _⟩
 ·simp only [if_true] at hmm
  subst hmm
  simp only [Fits,List.all_eq_true,decide_eq_true_eq,DataW.weights,ht,List.mem_cons,List.mem_append,List.length_map,List.length_range] at hw
  have hfit:∀ i,i<len→Fits P e (D i):=fun i hi=>weightsAll_mem (fun q hq=>hw q (.inr (.inl hq))) _ (List.mem_map.2 ⟨i,List.mem_range.2 hi,rfl⟩)
  have hel:∀ i,i<len→∃ v,At (Zof W) W (a.add (i*c.sz)) (c.e v)∧a.block<W.heap.size∧wf v∧mu v≤Rows.uptoBulk (D i):=fun i hi=>by
   obtain ⟨cs',h1,h2⟩:=hx i (by omega)
   obtain ⟨v,h3,h4,h5⟩:=ho k cs' _ h2 (hfit i hi)
   rw [hs] at h1
   obtain ⟨_,hlen,hcell⟩:=World.cells?_some h1
   have hpos:=c.pos
   refine ⟨v,⟨cs',h3,fun j u hu=>?_⟩,?_,h4,h5⟩
   ·have:j<c.sz:=by
     rcases Nat.lt_or_ge j cs'.length with h | h
     ·omega
     ·simp [h] at hu
    rw [hcell j this,hu]
   ·have:=hcell 0 hpos
    rw [List.getElem?_eq_getElem (by omega)] at this
    have hb:=cell_lt this
    rwa [add_block,add_block] at hb
  obtain ⟨xs,hxl,hxs⟩:=list_of len hel
  subst hxl
  refine ⟨xs,.cons ⟨some a,_,rfl,hl,fun i x hi=>⟨a,rfl,(hxs i x hi).2.1,(hxs i x hi).1⟩⟩ .nil,⟨?_,fun x hx=>?_⟩,?_⟩
  ·have:=hw _ (.inl rfl)
   rw [hb] at this
   exact Nat.le_trans (Nat.mul_le_mul_right _ (by omega)) this
  ·obtain ⟨i,hi⟩:=List.getElem?_of_mem hx
   exact (hxs i x hi).2.2.1
  ·have:=sum_bulk (mu:=mu) (xs:=xs) (ds:=(List.range xs.length).map D) (by simp) fun i x d hx hd=>by
    have h1:=(hxs i x hx).2.2.2
    rw [List.getElem?_map,List.getElem?_range] at hd
    ·simp only [Option.map_some,Option.some.injEq] at hd
     rw [← hd];exact h1
    ·exact (List.getElem?_eq_some_iff.1 hx).1
   simp only [muL,Rows.uptoBulk]
   omega
theorem struct_partsU {t:TypeId} {fs:Array Field} {n:Nat} {cs:List Value} {x:DataW H×List MemPlace} (ht:P.underlying t=some (.struct fs)) (h:DataW.trod enc P W 0 (fun _=>true) true n t cs=some x) (hw:Fits P t x.1) :
  cs.length=P.cellsOf t∧∃ m ys,ys.length=fs.size∧x.1 = .agg ys∧∀ (i:Nat) (f:Field),fs[i]?=some f→∃ y,DataW.trod enc P W 0 (fun _=>true) true m f.type ((cs.drop f.offset).take (P.cellsOf f.type))=some y∧Fits P f.type y.1∧ys[i]?=some y.1:=by
 obtain ⟨xs,m,rfl,rfl,hl,hx,hf⟩:=DataW.trod_struct ht h
 refine ⟨hl,m,xs.map (·.1),by simpa using hx,rfl,fun i f hi=>?_⟩
 have hi':i<xs.length:=by
  rw [hx]
  rcases Nat.lt_or_ge i fs.size with h | h
  ·exact h
  ·simp [h] at hi
 refine ⟨xs[i],by rw [hf i f hi];simp [hi'],?_,by simp [hi']⟩
 simp only [Fits,List.all_eq_true,decide_eq_true_eq,DataW.weights,ht] at hw
 exact weightsEach_get hw i f.type xs[i].1 (by simp [hi]) (by simp [hi'])
theorem struct_getU {T:Type} {c:Co T} {wf:T→Prop} {mu:T→Nat} {fs:Array Field} {m:Nat} {cs:List Value} {ys:List (DataW H)} (hf:∀ (i:Nat) (f:Field),fs[i]?=some f→∃ y:DataW H×List MemPlace,DataW.trod enc P W 0 (fun _=>true) true m f.type ((cs.drop f.offset).take (P.cellsOf f.type))=some y∧Fits P f.type y.1∧ys[i]?=some y.1)
  (i:Nat) {f:Field} {off ft s:Nat} (h1:fs[i]?=some f) (h2:f.offset=off) (h3:f.type=ft) (h4:P.cellsOf ft=s) (ho:OpnU enc P W ft c wf mu):∃ v d,AllP (Zof W) W (c.e v) ((cs.drop off).take s)∧wf v∧ys[i]?=some d∧mu v≤Rows.uptoBulk d:=by
 obtain ⟨y,g1,g2,g3⟩:=hf i f h1
 rw [h2,h3,h4] at g1
 rw [h3] at g2
 obtain ⟨v,q1,q2,q3⟩:=ho m _ y g1 g2
 exact ⟨v,y.1,q1,q2,g3,q3⟩
theorem bulk_from {ys:List (DataW H)} {k:Nat} (i:Nat) {d:DataW H} (h:ys[i]?=some d) (hr:k≤Rows.uptoBulkAll (ys.drop (i+1))) {q:Nat} (hq:q≤Rows.uptoBulk d):q+k≤Rows.uptoBulkAll (ys.drop i):=by
 obtain ⟨hi,rfl⟩:=List.getElem?_eq_some_iff.1 h
 rw [List.drop_eq_getElem_cons hi]
 simp only [Rows.uptoBulkAll]
 omega
theorem bulk_agg {ys:List (DataW H)} {k:Nat} {x:DataW H} (hx:x = .agg ys) (h:k≤Rows.uptoBulkAll (ys.drop 0)):k+1≤Rows.uptoBulk x:=by
 subst hx
 simpa [Rows.uptoBulk] using h
def ArgOkU {T:Type} (enc:TypeId×Value→H) (P:Program) (W:World) (t:TypeId) (av:T→AV) (wf:T→Prop) (mu:T→Nat):Prop :=
 ∀ (r:Reach) (b0:Nat) (v:Value) (d:DataW H) (ps:List MemPlace),Value.okWide P W r b0 t v→DataW.Trod enc P W 0 (fun _=>true) true t v d ps→Fits P t d→∃ x,(av x).p (Zof W) W v∧wf x∧mu x≤Rows.uptoBulk d
theorem arguS {t:TypeId} (ht:P.underlying t=some .string):ArgOkU enc P W t (fun s=>.lit (.string s)) wfS muS:=fun r b0 v d ps hv hd hw=>by
 obtain ⟨s,rfl,hd',_⟩:=Go.ChangeMaps.open_string ht hv hd
 obtain ⟨n,hd⟩:=hd
 obtain ⟨v,h1,h2⟩:=ouS ht n _ _ hd hw
 cases h1 with
 | cons h1 _=>exact ⟨v,h1,h2⟩
theorem arguA {T:Type} {t:TypeId} {c:Co T} {wf:T→Prop} {mu:T→Nat} {fs:Array Field} (ht:P.underlying t=some (.struct fs)) (ho:OpnU enc P W t c wf mu):ArgOkU enc P W t (fun x=>.agg (c.e x)) wf mu:=fun r b0 v d ps hv hd hw=>by
 obtain ⟨n,hd⟩:=hd
 obtain ⟨x,h1,h2⟩:=ho n _ _ hd hw
 simp only [Value.okWide,ht] at hv
 obtain ⟨cs,rfl,_⟩:=hv
 exact ⟨x,⟨cs.toList,rfl,h1⟩,h2⟩
inductive ArgsOkU (enc:TypeId×Value→H) (P:Program) (W:World) (B:Nat):List TypeId→(List AV→Prop)→Prop
 | nil {Q:List AV→Prop}:Q []→ArgsOkU enc P W B [] Q
 | cons {T:Type} {t:TypeId} {ts:List TypeId} {av:T→AV} {wf:T→Prop} {mu:T→Nat} {Q:List AV→Prop}:ArgOkU enc P W t av wf mu→(∀ x,wf x→mu x≤B→ArgsOkU enc P W B ts fun az=>Q (av x::az))→ArgsOkU enc P W B (t::ts) Q
theorem ArgsOkU.get {B:Nat} {ts:List TypeId} {Q:List AV→Prop} (h:ArgsOkU enc P W B ts Q):∀ {vs:List Value} {ds:List (DataW H)} {ps:List MemPlace} {r:Reach} {b0:Nat},DataW.TrodAll enc P W 0 (fun _=>true) true ts vs ds ps→(∀ (j:Nat) t v,ts[j]?=some t→vs[j]?=some v→Value.okWide P W r b0 t v)→(∀ q ∈ DataW.weightsEach P ts ds,q≤reachBytes)→Rows.uptoBulkAll ds≤B→∃ az,AllP (Zof W) W az vs∧Q az:=by
 induction h with
 | nil hq =>
  intro vs ds ps r b0 ht _ _ _
  match vs,ds,ht with
  | [],[],_=>exact ⟨[],.nil,hq⟩
 | @cons T t ts av wf mu Q ha _ ih =>
  intro vs ds ps r b0 ht hv hw hB
  match vs,ds,ht with
  | v::vs,d::ds,⟨p,q,h1,h2,_⟩ =>
   simp only [Rows.uptoBulkAll] at hB
   obtain ⟨x,hx,hwf,hmu⟩:=ha r b0 v d p (hv 0 t v rfl rfl) h1 (weightsEach_get hw 0 t d rfl rfl)
   obtain ⟨az,h3,h4⟩:=ih x hwf (by omega) h2 (fun j t v h h'=>hv (j+1) t v (by simpa using h) (by simpa using h')) (fun q hq=>hw q (by simp only [DataW.weightsEach,List.mem_append];exact .inr hq)) (by omega)
   exact ⟨_,.cons hx h3,h4⟩
theorem bulk_app (l r:List (DataW H)):Rows.uptoBulkAll (l++r)=Rows.uptoBulkAll l+Rows.uptoBulkAll r:=by
 induction l with
 | nil=>simp [Rows.uptoBulkAll]
 | cons x l ih=>simp only [List.cons_append,Rows.uptoBulkAll,ih];omega
theorem law_postU {f:FuncId} {fn:Func} {s:ChangeSpec} {tb:TypeId} (K:Kids P (·<P.types.size)) (hz:∀ t e,t<P.types.size→P.underlying t=some (.slice e)→0<P.cellsOf e) (hp:∀ t ∈ fn.params.toList,t<P.types.size)
  (hr:fn.resultTypes=#[tb]) (hb:P.underlying tb=some .bool) (hv:s.vars=[]) (hfn:∀ ds:List (DataW H),ds.length=fn.params.toList.length→s.fn H (ds++[])=⟨[.lit (.bool true)],ds,[]⟩)
  {base:Nat} {args:Array Value} {ds gs:List (DataW H)} {before:List MemPlace} (hval:∀ (j:Nat) t v,fn.params[j]?=some t→args[j]?=some v→Value.okWide P W .any base t v) (hW:DataW.Whole enc P fn.params.toList s.vars false W args.toList ds gs before)
  (hsz:(DataW.weightsEach P (fn.params.toList++s.plain.varTypes P) (ds++gs)).all (·≤reachBytes)=true) {B:Nat} (hB:Rows.uptoBulkAll (ds++gs)≤B)
  (main:ArgsOkU enc P W B fn.params.toList fun az=>Spec P f az [] fun a H=>a=Ab true∧H=[]):Calls P f args W fun e W'=>∃ v,e = .returned v∧s.post enc P fn false true false false W args v W':=by
 have hW':=hW
 obtain ⟨p,q,hA,hV,rfl,hfz,hnd⟩:=hW
 have hsz':∀ q ∈ DataW.weightsEach P fn.params.toList ds,q≤reachBytes:=by
  simp only [List.all_eq_true,decide_eq_true_eq] at hsz
  have hvt:s.plain.varTypes P=[]:=by simp [DataSpec.varTypes,ChangeSpec.plain,hv]
  rw [hv] at hV
  obtain ⟨rfl,rfl⟩:=trodVars_none hV
  rw [hvt,List.append_nil,List.append_nil] at hsz
  exact hsz
 rw [bulk_app] at hB
 obtain ⟨az,h1,h2⟩:=main.get hA (r:=.any) (b0:=base) (fun j t v h h'=>hval j t v (by simpa using h) (by simpa using h')) hsz' (by omega)
 rw [hv] at hV
 obtain ⟨rfl,rfl⟩:=trodVars_none hV
 have hlen:ds.length=fn.params.toList.length:=trodAll_len hA
 have hc:=h2 W (fun _=>False) (Zof W) args.toList h1 ⟨Base.refl _ _,fun _ h=>h,fun b h=>⟨h,.inl h⟩,fun b h=>h.elim,trivial⟩
 rw [Array.toArray_toList] at hc
 refine hc.mono fun e W' ⟨v,he,F,Z,a,H',⟨ha,hH'⟩,hi,hav⟩=>⟨v,he,?_⟩
 subst ha
 have hk:∀ b,b<W.heap.size→W'.heap[b]?=W.heap[b]?:=fun b h=>hi.base.keep b h (fun h=>h)
 have hv':v = .bool true:=hav
 subst hv'
 have hall:=trodAll_same hk hA
 refine ⟨ds,[],p++[],[],p,[],hW',?_,?_,?_,?_,fun h=>by cases h⟩
 ·rw [hfn ds hlen,hr]
  exact trodAll_mk1 (shut_bool hb _)
 ·rw [hfn ds hlen]
  exact DataW.TrodAll.respare K hz hp hall fun x hx=>by simpa using trodAll_lt hA x hx
 ·rw [hfn ds hlen,hv];rfl
 ·refine ⟨hi.base.os,hi.base.output,fun i hi'=>?_⟩
  rw [hk i hi']
  split <;> simp_all
end
end S
namespace S
open Go.RowKit
set_option linter.unusedVariables false
set_option linter.unusedSimpArgs false
set_option exponentiation.threshold 3000
section
open Ieee
end
section
variable {P:Program} {n:Nat} {fr:Fr} {H:List Res} {t t' t'' ty e:TypeId} {x y:Operand}
theorem t7 {zs:List Value} {az cs:List AV} {ps:Array (Nat×Operand)} {m sz:Nat} (ht:P.underlying t=some (.array m e)) (hs:SizeIs P e sz) (hz:∀ w,(zeroValue t).run P w = .ok (.agg zs.toArray) w)
  (ha:∀ Z w,AllP Z w az zs) (hp:Parts fr (fun i=>some (i*sz,sz)) az ps.toList cs):D P n H (.build t ps) ty fr (.agg cs) :=
 .of fun o ho hty w Z F ρ _ hf=>by
  obtain ⟨us,h1,h2⟩:=fill_parts hp (ρ:=ρ) (Z:=Z) (w:=w) (fun {x a} hmem hx=>hf (by simp [Op.operands];simpa using hmem) hx) zs (ha Z w)
  refine ⟨.agg us.toArray,?_,us,rfl,h2⟩
  have h1'':Instr.fill (fun i=>some (i*sz,sz)) zs.toArray (Array.map (fun x=>match x with | (i,x)=>(i,ρ x)) ps).toList=some us.toArray:=by
   have hps:(ps.map fun p=>(p.1,ρ p.2)).toList=ps.toList.map fun p=>(p.1,ρ p.2):=by simp
   rw [← hps] at h1
   exact h1
  simp only [execOp,ho,Instr.build,Sem.run_bind,hz w,Result.andThen_ok,Sem.run_pure,run_underlying ht,hs w,Value.cells]
  simp only [h1'',Sem.run_pure,Result.andThen_ok]
end
section
variable {P:Program} {w:World}
theorem eqF_step {d:Nat} {xs ys:Array Value} {f:Field} {fs:List Field} {a b:Value} {r:Bool} (hn:f.name ≠ "_") (hx:(part f.type xs f.offset).run P w = .ok a w) (hy:(part f.type ys f.offset).run P w = .ok b w) (he:(Op.equalIn d f.type a b).run P w = .ok r w) :
  (Op.eqFields d xs ys (f::fs)).run P w=if r=true then (Op.eqFields d xs ys fs).run P w else .ok false w:=by
 simp only [Op.eqFields,if_pos hn,Sem.run_bind,hx,hy,he,Result.andThen_ok,Sem.run_ite,Sem.run_pure]
 cases r <;> simp
theorem eqF_int {d:Nat} {xs ys:List Value} {f:Field} {fs:List Field} {k k':IntKind} {a b:Int} (hn:f.name ≠ "_") (hg:IsAgg P f.type false) (ht:P.underlying f.type=some (.int k')) (hx:xs[f.offset]?=some (.int k a)) (hy:ys[f.offset]?=some (.int k b)) :
  (Op.eqFields (d+1) xs.toArray ys.toArray (f::fs)).run P w=if a=b then (Op.eqFields (d+1) xs.toArray ys.toArray fs).run P w else .ok false w:=by
 rw [eqF_step hn (part_one hg hx) (part_one hg hy) (run_equalIn_int w d _ _ _ _ _ ht)]
 simp
theorem eqF_nil {d:Nat} {xs ys:Array Value}:(Op.eqFields d xs ys []).run P w = .ok (decide True) w:=by simp [Op.eqFields]
theorem ok_ite {p:Prop} [Decidable p] {q:Prop} [Decidable q]:(if p then (Result.ok (decide q) w:Result Bool) else .ok false w) = .ok (decide (p∧q)) w:=by
 by_cases hp:p <;> simp [hp]
theorem allp_lits {Z:Nat→Prop}:∀ {vs us:List Value},AllP Z w (vs.map AV.lit) us→us=vs
 | [],_,.nil=>rfl
 | v::vs,_,.cons h hs=>by rw [show _=v from h,allp_lits hs]
variable {n:Nat} {fr:Fr} {H:List Res} {t t' ty:TypeId} {a b:Operand}
theorem je {T:Type} [DecidableEq T] {c:Co T} {x y:T} (vs:T→List Value) (hm:P.eqGuardType P.depth t=false) (hv:∀ x,c.e x=(vs x).map AV.lit) (he:∀ w x y,(Op.equalIn 10000 t (.agg (vs x).toArray) (.agg (vs y).toArray)).run P w = .ok (decide (x=y)) w) (hx:arg fr a=some (.agg (c.e x))) (hy:arg fr b=some (.agg (c.e y))):D P n H (.binOp .eql t a b t') ty fr (Ab (decide (x=y))) :=
 .of fun o ho hty w Z F ρ _ hf=>by
  obtain ⟨us,e1,h1⟩:=hf (by simp [Op.operands]) hx
  obtain ⟨ws,e2,h2⟩:=hf (by simp [Op.operands]) hy
  rw [hv] at h1 h2
  have:=allp_lits h1
  subst this
  have:=allp_lits h2
  subst this
  exact ⟨.bool (decide (x=y)),by simp only [execOp,ho,e1,e2,Sem.run_bind,run_eqGuard_agg w _ _ _ _ _ _ hm,Result.andThen_ok,run_eql_struct,he,Sem.run_pure],rfl⟩
theorem qe {T:Type} [DecidableEq T] {c:Co T} {x y:T} (vs:T→List Value) (hm:P.eqGuardType P.depth t=false) (hv:∀ x,c.e x=(vs x).map AV.lit) (he:∀ w x y,(Op.equalIn 10000 t (.agg (vs x).toArray) (.agg (vs y).toArray)).run P w = .ok (decide (x=y)) w) (hx:arg fr a=some (.agg (c.e x))) (hy:arg fr b=some (.agg (c.e y))):D P n H (.binOp .neq t a b t') ty fr (Ab (decide (x≠y))) :=
 .of fun o ho hty w Z F ρ _ hf=>by
  obtain ⟨us,e1,h1⟩:=hf (by simp [Op.operands]) hx
  obtain ⟨ws,e2,h2⟩:=hf (by simp [Op.operands]) hy
  rw [hv] at h1 h2
  have:=allp_lits h1
  subst this
  have:=allp_lits h2
  subst this
  refine ⟨.bool (!decide (x=y)),by simp only [execOp,ho,e1,e2,Sem.run_bind,run_eqGuard_agg w _ _ _ _ _ _ hm,Result.andThen_ok,run_neq_struct,he,Sem.run_pure],?_⟩
  show Value.bool _=_
  rw [decide_not]
end
end S
namespace S
open Go.RowKit
set_option linter.unusedVariables false
set_option linter.unusedSimpArgs false
section
variable {P:Program} {f:FuncId} {n:Nat} {ops:Array Oper} {l:List Oper} {k:List Item} {fr:Fr} {H:List Res} {ρ R:Type} {x:Option ρ} {X:ρ→Option R} {K:R→AV→List Res→Prop} {t ty e:TypeId} {T:Type} {c:Co T}
theorem agg_imp {Z:Nat→Prop} {w:World} {az:List AV} {v:Value} {i:Nat} {a b:AV} (h:(AV.agg az).p Z w v) (hi:az[i]?=some a) (hab:∀ u,a.p Z w u→b.p Z w u):(AV.agg (az.set i b)).p Z w v:=by
 obtain ⟨vs,e,h⟩:=h
 exact ⟨vs,e,h.imp hi hab⟩
theorem Ld {todo:List Item} (u i j:Nat) {az:List AV} {v:Value} {xs:List T} (hu:look fr u=some (.agg az)) (hi:az[i]?=some (.sv v)) (hj:H[j]?=some (.fz c v xs)) (h:Sim P f n todo ((u,.agg (az.set i (.fsl c xs)))::fr) H x X K):Sim P f n todo fr H x X K:=by
 intro r hr w0 F0 Z0 w F Z tmps hn hinv hf
 obtain ⟨F1,h1,_⟩:=hinv.res.at hj
 refine h r hr w0 F0 Z0 w F Z tmps hn hinv fun t a ht=>?_
 simp only [look] at ht
 by_cases e:u=t
 ·subst e;simp at ht;subst ht
  exact agg_imp (hf u _ hu) hi fun q hq=>by rw [hq.1];exact h1
 ·have:(u == t)=false:=by simpa using e
  rw [this] at ht;exact hf t a (by simpa using ht)
theorem zc (u i j:Nat) {az:List AV} {v:Value} {xs:List T} (hu:look fr u=some (.agg az)) (hi:az[i]?=some (.sv v)) (hj:H[j]?=some (.fz c v xs)) (h:SimL P f n ops l k ((u,.agg (az.set i (.fsl c xs)))::fr) H x X K):SimL P f n ops l k fr H x X K:=fun is hs=>Ld u i j hu hi hj (h is hs)
theorem Md {todo:List Item} (u i:Nat) (c:Co T) {az:List AV} (hu:look fr u=some (.agg az)) (hi:az[i]?=some (.lit (.slice none 0 0))) (h:Sim P f n todo ((u,.agg (az.set i (.fsl c [])))::fr) H x X K):Sim P f n todo fr H x X K:=by
 intro r hr w0 F0 Z0 w F Z tmps hn hinv hf
 refine h r hr w0 F0 Z0 w F Z tmps hn hinv fun t a ht=>?_
 simp only [look] at ht
 by_cases e:u=t
 ·subst e;simp at ht;subst ht
  exact agg_imp (hf u _ hu) hi fun q hq=>by rw [show q=_ from hq];exact ⟨none,0,rfl,Nat.le_refl _,fun i x hx=>by simp at hx⟩
 ·have:(u == t)=false:=by simpa using e
  rw [this] at ht;exact hf t a (by simpa using ht)
theorem Gc (u i:Nat) (c:Co T) {az:List AV} (hu:look fr u=some (.agg az)) (hi:az[i]?=some (.lit (.slice none 0 0))) (h:SimL P f n ops l k ((u,.agg (az.set i (.fsl c [])))::fr) H x X K):SimL P f n ops l k fr H x X K:=fun is hs=>Md u i c hu hi (h is hs)
end
end S
namespace S
open Go.RowKit
set_option linter.unusedVariables false
set_option linter.unusedSimpArgs false
theorem filter_less (S:List Nat) (i:Nat) (hS:i ∉ S):∀ l:List Nat,i ∈ l→(l.filter fun j=>!(i::S).elem j).length<(l.filter fun j=>!S.elem j).length:=by
 intro l
 have le:∀ l:List Nat,(l.filter fun j=>!(i::S).elem j).length≤(l.filter fun j=>!S.elem j).length:=by
  intro l
  induction l with
  | nil=>simp
  | cons a l ih =>
   simp only [List.filter_cons]
   by_cases h:S.elem a=true
   ·have:(i::S).elem a=true:=by simp at h ⊢;exact .inr h
    simp only [h,this,Bool.not_true];exact ih
   ·have h':S.elem a=false:=by simpa using h
    simp only [h',Bool.not_false,if_true]
    split
    ·simp only [List.length_cons];omega
    ·simp only [List.length_cons];omega
 induction l with
 | nil=>intro h;cases h
 | cons a l ih =>
  intro h
  by_cases e:i=a
  ·subst e
   have h1:(i::S).elem i=true:=by simp
   have h2:S.elem i=false:=by simpa using hS
   simp only [List.filter_cons,h1,h2,Bool.not_true,Bool.not_false,if_true,List.length_cons]
   have:=le l
   simp at this ⊢
   omega
  ·have h:=ih (by simpa [e] using h)
   simp only [List.filter_cons]
   by_cases g:S.elem a=true
   ·have:(i::S).elem a=true:=by simp at g ⊢;exact .inr g
    simp only [g,this,Bool.not_true];exact h
   ·have h':S.elem a=false:=by simpa using g
    have h2:(i::S).elem a=false:=by
     simp at g ⊢;exact ⟨fun x=>e x.symm,g⟩
    simp only [h',h2,Bool.not_false,if_true,List.length_cons];omega
theorem lin_map {ops:Array Oper} {S is:List Nat} (h:Lin ops S is):is.map (fun i=>ops[i]?)=(is.filterMap fun i=>ops[i]?).map some:=by
 induction h with
 | nil=>rfl
 | cons ho _ _ _ ih=>simp [ho,ih]
def Each {α:Type} (p:α→Prop):List α→Prop
 | []=>True
 | a::l=>p a∧Each p l
theorem Each.mem {α:Type} {p:α→Prop} {l:List α} (h:Each p l):∀ a ∈ l,p a:=by
 induction l with
 | nil=>simp
 | cons b l ih =>
  intro a ha
  rcases List.mem_cons.1 ha with rfl | ha
  ·exact h.1
  ·exact ih h.2 a ha
def pickR (H:List Res):List Nat→List Res
 | []=>[]
 | j::js=>match H[j]? with
  | some r=>r::pickR (H.eraseIdx j) js
  | none=>[]
theorem HAll.pickR {Z:Nat→Prop} {w:World}:∀ (js:List Nat) {H:List Res} {F:Nat→Prop},HAll H Z w F→HAll (S.pickR H js) Z w F:=by
 intro js
 induction js with
 | nil=>intros;trivial
 | cons j js ih =>
  intro H F h
  unfold S.pickR
  cases hj:H[j]? with
  | none=>trivial
  | some r =>
   obtain ⟨F1,F2,h1,h2,d1,d2⟩:=h.take hj
   exact ⟨F1,F2,h1,ih h2,d1,d2⟩
section
variable {P:Program} {f:FuncId} {n:Nat} {ops:Array Oper} {l:List Oper} {k:List Item} {fr:Fr} {H:List Res} {ρ R:Type} {x:Option ρ} {X:ρ→Option R} {K:R→AV→List Res→Prop}
theorem k4 {fr':Fr} {H':List Res} (h:Sim P f n k fr' H' x X K) (js:List Nat) (hs:Sub fr' fr) (hH:S.pickR H js=H'):Sim P f n k fr H x X K:=by
 subst hH
 exact fun r hr w0 F0 Z0 w F Z tmps hn hi hf=>h r hr w0 F0 Z0 w F Z tmps hn (hi.less (·.pickR js)) (fun t a ht=>hf t a (hs.look ht))
theorem pc {T:Type} {c:Co T} {todo:List Item} (j i:Nat) (e:TypeId) {b:Nat} {az:List AV} (hj:H[j]?=some (.box b az)) (hu:az[i]?=some (.lit (.slice none 0 0))) (h:∀ v,Sim P f n todo fr (.own e c v []::H.set j (.box b (az.set i (.sv v)))) x X K):Sim P f n todo fr H x X K:=by
 intro r hr w0 F0 Z0 w F Z tmps hn hi hf
 obtain ⟨F',hi',_⟩:=hi.turn (w':=w) (r':=.box b (az.set i (.sv (.slice none 0 0)))) hj fun G1 ⟨hg,vs,t',e1,e2⟩ _=>⟨G1,Step.refl _ _,⟨hg,vs,t',e1,e2.imp hu fun u hu=>⟨hu,_,_,_,rfl⟩⟩,fun _ x=>.inl x⟩
 exact h (.slice none 0 0) r hr w0 F0 Z0 w F' Z tmps hn ⟨hi'.base,hi'.z0,hi'.zin,hi'.fin,fun _=>False,F',.inr ⟨rfl,none,rfl⟩,hi'.res,fun b hb=>hb.elim,fun b hb=>hb⟩ hf
end
end S
namespace S
open Go.RowKit
set_option linter.unusedVariables false
set_option linter.unusedSimpArgs false
theorem look_app (a b:Fr) (t:Nat):look (a++b) t=match look a t with | some v=>some v | none=>look b t:=by
 induction a with
 | nil=>rfl
 | cons p a ih =>
  obtain ⟨u,v⟩:=p
  simp only [List.cons_append,look]
  cases h:u == t <;> simp [ih]
def frL (un:List Nat) (fr:Fr):Fr:=fr.filter fun p=>!un.elem p.1
theorem look_frL (un:List Nat) (fr:Fr) (t:Nat):look (frL un fr) t=if un.elem t=true then none else look fr t:=by
 unfold frL
 induction fr with
 | nil=>simp [look]
 | cons p fr ih =>
  obtain ⟨u,v⟩:=p
  simp only [List.filter_cons]
  by_cases e:u=t
  ·subst e
   cases h:un.elem u
   ·simp [look]
   ·simp only [Bool.not_true,Bool.false_eq_true,if_false]
    rw [ih,if_pos h];simp
  ·have hb:(u == t)=false:=by simpa using e
   split
   ·simp only [look,hb,cond_false,ih]
   ·simp only [look,hb,cond_false,ih]
abbrev Qs:=List (Nat×Nat×AV)
def qat:Qs→Nat→Option (Nat×AV)
 | [],_=>none
 | q::qs,i=>bif q.1 == i then some q.2 else qat qs i
theorem qat_mem {qs:Qs} {i:Nat} {p:Nat×AV} (h:qat qs i=some p):(i,p) ∈ qs:=by
 induction qs with
 | nil=>simp [qat] at h
 | cons q qs ih =>
  simp only [qat] at h
  cases e:q.1 == i
  ·rw [e] at h;exact List.mem_cons_of_mem _ (ih h)
  ·rw [e] at h
   simp at h e
   subst h e
   exact List.mem_cons_self ..
def Avl (qs:Qs) (S:List Nat) (t:Nat):Prop:=∀ q ∈ qs,q.2.1=t→q.1 ∈ S
def bitsOf (ops:Array Oper) (i:Nat):Nat:=(bef [] ops.toList).getD i 0
theorem bits_in {ops:Array Oper} (hb:backOk ops=true) {S:List Nat} (hS:Closed ops S) {i j:Nat} {o:Oper} (ho:ops[i]?=some o) (he:∀ e ∈ edgesOn o,e ∈ S) (hj:(bitsOf ops i).testBit j=true):j ∈ S:=by
 have hi:i<ops.size:=by
  rcases Nat.lt_or_ge i ops.size with h | h
  ·exact h
  ·simp [h] at ho
 exact bef_ok ops hb ops.toList [] (fun k o hk=>by simpa using hk) (fun i o hi=>by simp at hi) i o (by simpa using hi) ho S hS he j hj
def reads (ops:Array Oper) (o:Oper):List Nat:=opTmps o.op++match o.guard with
 | some (j,_)=>((ops[j]?).bind (·.dst)).toList
 | none=>[]
def keyOf (o:Oper):Option Nat×List Nat:=(o.dst,opTmps o.op)
def mOk (ops:Array Oper) (ids:List (Nat×Nat)) (ns:List Nat):Bool :=
 ((List.range ops.size).all fun i=>ns.elem i || ids.any fun q=>q.1 == i) &&
 (ids.all fun q=>!ns.elem q.1 && ids.all fun p=>(p.1 == q.1) == (p.2 == q.2)) &&
 (ids.all fun p=>match ops[p.1]? with
  | some o=>ids.all fun q=>!(reads ops o).elem q.2 || (!(p.1 == q.1) && (bitsOf ops p.1).testBit q.1)
  | none=>false) &&
 ((List.range ops.size).all fun i=>(List.range i).all fun j=>match ops[i]?,ops[j]? with
  | some o,some p=>!(keyOf o == keyOf p)
  | _,_=>true)
def extsE (ops:Array Oper) (bs ns:List Nat):Nat→List Nat→List (List Nat)
 | m,S=>if ns.all (fun i=>S.elem i) then [[]] else match m with
  | 0=>[]
  | m+1=>ns.flatMap fun i=>if !S.elem i && ns.all (fun j=>!(bs.getD i 0).testBit j || S.elem j) then (extsE ops bs ns m (i::S)).map (i::·) else []
theorem Closed.add {ops:Array Oper} {S:List Nat} {i:Nat} {o:Oper} (h:Closed ops S) (ho:ops[i]?=some o) (he:∀ e ∈ edgesOn o,e ∈ S):Closed ops (i::S):=by
 intro j hj p hp e hee
 rcases List.mem_cons.1 hj with rfl | hj
 ·rw [ho] at hp;cases hp
  exact List.mem_cons_of_mem _ (he e hee)
 ·exact List.mem_cons_of_mem _ (h j hj p hp e hee)
theorem lin_extsE {ops:Array Oper} (hb:backOk ops=true) {ns S is:List Nat} (hns:∀ i ∈ ns,i<ops.size) (h:Lin ops S is):Closed ops S→∀ m S',(∀ j ∈ ns,j ∈ S'↔j ∈ S)→(ns.filter fun j=>!S'.elem j).length≤m→(is.filter fun i=>ns.elem i) ∈ extsE ops (bef [] ops.toList) ns m S':=by
 induction h with
 | @nil S h =>
  intro _ m S' hS' _
  unfold extsE
  have hall:ns.all (fun i=>S'.elem i)=true:=by
   rw [List.all_eq_true]
   intro i hi
   simpa using (hS' i hi).2 (h i (hns i hi))
  rw [if_pos hall];simp
 | @cons S is i o ho hn he _ ih =>
  intro hcl m S' hS' hm
  have hcl':=hcl.add ho he
  cases hi:ns.elem i with
  | false =>
   have hi':i ∉ ns:=by simpa using hi
   simp only [List.filter_cons,hi,Bool.false_eq_true,if_false]
   refine ih hcl' m S' (fun j hj=>?_) hm
   rw [hS' j hj,List.mem_cons]
   exact ⟨.inr,fun h=>h.resolve_left fun e=>hi' (e ▸ hj)⟩
  | true =>
   have hi':i ∈ ns:=by simpa using hi
   simp only [List.filter_cons,hi,if_true]
   have hnS':i ∉ S':=fun h=>hn ((hS' i hi').1 h)
   have hlt:=filter_less S' i hnS' ns hi'
   unfold extsE
   rw [if_neg]
   ·cases m with
    | zero=>omega
    | succ m =>
     simp only [List.mem_flatMap]
     refine ⟨i,hi',?_⟩
     have hc:(!S'.elem i && ns.all (fun j=>!((bef [] ops.toList).getD i 0).testBit j || S'.elem j))=true:=by
      rw [Bool.and_eq_true,List.all_eq_true]
      refine ⟨by simpa using hnS',fun j hj=>?_⟩
      cases hbit:((bef [] ops.toList).getD i 0).testBit j with
      | false=>rfl
      | true =>
       have:=bits_in hb hcl ho he (j:=j) hbit
       simpa using (hS' j hj).2 this
     rw [if_pos hc,List.mem_map]
     refine ⟨_,ih hcl' m (i::S') (fun j hj=>?_) (by omega),rfl⟩
     rw [List.mem_cons,List.mem_cons,hS' j hj]
   ·intro h
    rw [List.all_eq_true] at h
    have:=h i hi'
    exact hnS' (by simpa using this)
section
variable {P:Program} {f:FuncId} {n:Nat} {ops:Array Oper} {k:List Item} {fr:Fr} {H:List Res} {ρ R:Type} {x:Option ρ} {X:ρ→Option R} {K:R→AV→List Res→Prop}
def SimM (P:Program) (f:FuncId) (n:Nat) (ops:Array Oper) (k:List Item) (qs:Qs) (fr0:Fr) (ns dn es:List Nat) (fe:Fr) (H:List Res) {ρ R:Type} (x:Option ρ) (X:ρ→Option R) (K:R→AV→List Res→Prop):Prop :=
 ∀ S is,Lin ops S is→Closed ops S→(∀ i ∈ dn,i ∈ S)→(∀ q ∈ qs,q.1 ∉ S→look fe q.2.1=none)→(is.filter fun i=>ns.elem i)=es→∀ r,x.bind X=some r→∀ (w0:World) (F0 Z0:Nat→Prop) (w:World) (F Z:Nat→Prop) (tmps:Array Value),tmps.size=n→Inv w0 w F0 Z0 F Z H →
  (∀ t a,look (fe++(qs.map (·.2)++fr0)) t=some a→Avl qs S t→a.p Z w (tmps.getD t undef))→Run P f (.inRegion ops is::k) tmps w (Done w0 F0 Z0 (K r))
inductive QP (P:Program) (n:Nat) (H:List Res) (ops:Array Oper) (fr:Fr) (qs:Qs):List Nat→Prop
 | n:QP P n H ops fr qs []
 | c {i d:Nat} {is:List Nat} {o:Oper} {av:AV}:ops[i]?=some o→qat qs i=some (d,av)→o.dst=some d→Nat.blt d n=true→QOp P n H ops fr o av→QP P n H ops fr qs is→QP P n H ops fr qs (i::is)
theorem QP.get {qs:Qs} {is:List Nat} (h:QP P n H ops fr qs is):∀ i ∈ is,∃ d o av,ops[i]?=some o∧qat qs i=some (d,av)∧o.dst=some d∧d<n∧QOp P n H ops fr o av:=by
 induction h with
 | n=>intro i hi;cases hi
 | c h1 h2 h3 h4 h5 _ ih =>
  intro i hi
  rcases List.mem_cons.1 hi with rfl | hi
  ·exact ⟨_,_,_,h1,h2,h3,by simpa [Nat.blt_eq] using h4,h5⟩
  ·exact ih i hi
def pendOk (ops:Array Oper) (ids:List (Nat×Nat)) (dn pend:List Nat):Bool:=ids.all fun q=>pend.elem q.1 || dn.any fun j=>(bitsOf ops j).testBit q.1
theorem qs_uniq {qs:Qs} {ns:List Nat} (hm:mOk ops (qs.map fun q=>(q.1,q.2.1)) ns=true) {p q:Nat×Nat×AV} (hp:p ∈ qs) (hq:q ∈ qs) (h:p.2.1=q.2.1):p.1=q.1:=by
 simp only [mOk,Bool.and_eq_true] at hm
 have h2:=List.all_eq_true.1 hm.1.1.2 (q.1,q.2.1) (List.mem_map.2 ⟨q,hq,rfl⟩)
 rw [Bool.and_eq_true] at h2
 have h3:=List.all_eq_true.1 h2.2 (p.1,p.2.1) (List.mem_map.2 ⟨p,hp,rfl⟩)
 rw [beq_iff_eq] at h3
 simp only [h,beq_self_eq_true] at h3
 simpa using h3
theorem qs_uniq' {qs:Qs} {ns:List Nat} (hm:mOk ops (qs.map fun q=>(q.1,q.2.1)) ns=true) {p q:Nat×Nat×AV} (hp:p ∈ qs) (hq:q ∈ qs) (h:p.1=q.1):p.2.1=q.2.1:=by
 simp only [mOk,Bool.and_eq_true] at hm
 have h2:=List.all_eq_true.1 hm.1.1.2 (q.1,q.2.1) (List.mem_map.2 ⟨q,hq,rfl⟩)
 rw [Bool.and_eq_true] at h2
 have h3:=List.all_eq_true.1 h2.2 (p.1,p.2.1) (List.mem_map.2 ⟨p,hp,rfl⟩)
 rw [beq_iff_eq] at h3
 simp only [h,beq_self_eq_true] at h3
 simpa using h3
theorem look_qs {qs:Qs} {fr0:Fr} {ns:List Nat} (hm:mOk ops (qs.map fun q=>(q.1,q.2.1)) ns=true) {q:Nat×Nat×AV} (hq:q ∈ qs) {a:AV} (h:look (qs.map (·.2)++fr0) q.2.1=some a):∃ p ∈ qs,p.1=q.1∧p.2=(q.2.1,a):=by
 have key:∀ l:Qs,q ∈ l→(∀ p ∈ l,p ∈ qs)→look (l.map (·.2)++fr0) q.2.1=some a→∃ p ∈ qs,p.1=q.1∧p.2=(q.2.1,a):=by
  intro l
  induction l with
  | nil=>intro h;cases h
  | cons p l ih =>
   intro h1 h2 h3
   obtain ⟨i,d,v⟩:=p
   simp only [List.map_cons,List.cons_append,look] at h3
   by_cases e:d=q.2.1
   ·subst e
    simp at h3
    subst h3
    exact ⟨_,h2 _ (List.mem_cons_self ..),qs_uniq hm (h2 _ (List.mem_cons_self ..)) hq rfl,rfl⟩
   ·have:(d == q.2.1)=false:=by simpa using e
    rw [this] at h3
    refine ih ?_ (fun p hp=>h2 p (List.mem_cons_of_mem _ hp)) (by simpa using h3)
    rcases List.mem_cons.1 h1 with h | h
    ·exact absurd (by rw [h]) e
    ·exact h
 exact key qs hq (fun p hp=>hp) h
theorem mQ {qs:Qs} {fr0 fe:Fr} {ns dn es:List Nat} (pend:List Nat) (hb:backOk ops=true) (hm:mOk ops (qs.map fun q=>(q.1,q.2.1)) ns=true) (hq:QP P n H ops (fe++(qs.map (·.2)++fr0)) qs pend) (hp:pendOk ops (qs.map fun q=>(q.1,q.2.1)) dn pend=true)
  (h:∀ S is,Lin ops S is→(∀ i is',is=i::is'→ns.elem i=true)→Closed ops S→(∀ i ∈ dn,i ∈ S)→(∀ q ∈ qs,q.1 ∉ S→look fe q.2.1=none)→(is.filter fun i=>ns.elem i)=es→∀ r,x.bind X=some r→∀ (w0:World) (F0 Z0:Nat→Prop) (w:World) (F Z:Nat→Prop) (tmps:Array Value),tmps.size=n→Inv w0 w F0 Z0 F Z H →
   (∀ t a,look (fe++(qs.map (·.2)++fr0)) t=some a→Avl qs S t→a.p Z w (tmps.getD t undef))→Run P f (.inRegion ops is::k) tmps w (Done w0 F0 Z0 (K r))):SimM P f n ops k qs fr0 ns dn es fe H x X K:=by
 intro S is hl
 have hm0:=hm
 simp only [mOk,Bool.and_eq_true] at hm0
 induction hl with
 | @nil S hS=>exact h S [] (.nil hS) (by simp)
 | @cons S is i o ho hn he hl ih =>
  cases hi:ns.elem i with
  | true=>exact h S (i::is) (.cons ho hn he hl) (fun j is' e=>by cases e;exact hi)
  | false =>
   intro hcl hdn hfe hes r hr w0 F0 Z0 w F Z tmps hsz hinv hf
   have hilt:i<ops.size:=by
    rcases Nat.lt_or_ge i ops.size with h | h
    ·exact h
    ·simp [h] at ho
   have hiq:∃ q ∈ qs,q.1=i:=by
    have:=(all_lt _ _).1 hm0.1.1.1 i hilt
    rw [hi,Bool.false_or,List.any_eq_true] at this
    obtain ⟨q,hq1,hq2⟩:=this
    obtain ⟨p,hp1,rfl⟩:=List.mem_map.1 hq1
    exact ⟨p,hp1,by simpa using hq2⟩
   obtain ⟨q0,hq0,hq0i⟩:=hiq
   have hpend:i ∈ pend:=by
    have:=List.all_eq_true.1 hp (q0.1,q0.2.1) (List.mem_map.2 ⟨q0,hq0,rfl⟩)
    rw [Bool.or_eq_true] at this
    rcases this with h | h
    ·simpa [hq0i] using h
    ·exfalso
     rw [List.any_eq_true] at h
     obtain ⟨j,hj1,hj2⟩:=h
     have hjS:=hdn j hj1
     have hjo:∃ p,ops[j]?=some p:=by
      rcases Nat.lt_or_ge j ops.size with hlt | hge
      ·exact ⟨ops[j],by simp [hlt]⟩
      ·exfalso
       have hz:∀ (l:List Oper) (bs:List Nat),(bef bs l).length=bs.length+l.length:=by
        intro l
        induction l with
        | nil=>intro bs;simp [bef]
        | cons o l ih=>intro bs;simp only [bef];rw [ih];simp;omega
       have:(bef [] ops.toList).length≤j:=by rw [hz];simpa using hge
       simp only [bitsOf,List.getD_eq_getElem?_getD,List.getElem?_eq_none this,Option.getD_none,Nat.zero_testBit] at hj2
       cases hj2
     obtain ⟨p,hpj⟩:=hjo
     have:=bits_in hb hcl hpj (hcl j hjS p hpj) hj2
     simp only [hq0i] at this
     exact hn this
   obtain ⟨d,o',av,ho',hqat,hd,hdn',hop⟩:=hq.get i hpend
   rw [ho] at ho';cases ho'
   have hqm:=qat_mem hqat
   have hslot:∀ t,t ∈ reads ops o→∀ a,look (fe++(qs.map (·.2)++fr0)) t=some a→a.p Z w (tmps.getD t undef):=by
    intro t ht a hla
    refine hf t a hla fun q hqq hqt=>?_
    have h1:=List.all_eq_true.1 hm0.1.2 (i,d) (List.mem_map.2 ⟨_,hqm,rfl⟩)
    simp only [ho] at h1
    have h2:=List.all_eq_true.1 h1 (q.1,q.2.1) (List.mem_map.2 ⟨q,hqq,rfl⟩)
    simp only [hqt,Bool.or_eq_true,Bool.and_eq_true,Bool.not_eq_true'] at h2
    rcases h2 with h2 | ⟨_,h2⟩
    ·exact absurd ht (by simpa using h2)
    ·exact bits_in hb hcl ho he h2
   have hon:FrOn (opTmps o.op) (fe++(qs.map (·.2)++fr0)) Z w tmps:=fun t ht a ha=>hslot t (by unfold reads;simp [ht]) a ha
   have hes':(is.filter fun i=>ns.elem i)=es:=by
    rw [List.filter_cons,hi] at hes
    exact hes
   have next:∀ v w' Z',Inv w0 w' F0 Z0 F Z' H→(∀ b,Z b→Z' b)→Keep Z w w'→av.p Z' w' v→Run P f (.inRegion ops is::k) (tmps.setIfInBounds d v) w' (Done w0 F0 Z0 (K r)):=by
    intro v w' Z' hi' hz hk hv
    refine ih (hcl.add ho he) (fun j hj=>List.mem_cons_of_mem _ (hdn j hj)) (fun q hqq hqn=>hfe q hqq fun hx=>hqn (List.mem_cons_of_mem _ hx)) hes' r hr w0 F0 Z0 w' F Z' _ (by simpa using hsz) hi' fun t a hla hav=>?_
    rw [getD_set _ _ _ _ (by omega)]
    by_cases e:d=t
    ·subst e
     rw [if_pos rfl]
     have hnone:=hfe _ hqm hn
     simp only at hnone
     rw [look_app,hnone] at hla
     obtain ⟨p,hp1,hp2,hp3⟩:=look_qs hm hqm hla
     have:p=(i,d,av)∨p.1=i:=.inr hp2
     have hq2:=hqat
     have hsame:∀ l:Qs,(∀ u ∈ l,u ∈ qs)→qat l i=some (d,av)→look (l.map (·.2)++fr0) d=some a→a=av:=by
      intro l
      induction l with
      | nil=>intro _ h;simp [qat] at h
      | cons u l ihl =>
       intro hu h1 h2
       obtain ⟨i',d',v'⟩:=u
       simp only [qat] at h1
       simp only [List.map_cons,List.cons_append,look] at h2
       by_cases ei:i'=i
       ·subst ei
        simp at h1
        obtain ⟨rfl,rfl⟩:=h1
        simpa using h2.symm
       ·have eb:(i' == i)=false:=by simpa using ei
        rw [eb] at h1
        have hdd:d'≠d:=fun ed=>ei (qs_uniq hm (hu _ (List.mem_cons_self ..)) hqm ed)
        have ed:(d' == d)=false:=by simpa using hdd
        rw [ed] at h2
        exact ihl (fun u h=>hu u (List.mem_cons_of_mem _ h)) (by simpa using h1) (by simpa using h2)
     rw [hsame qs (fun u h=>h) hqat hla]
     exact hv
    ·rw [if_neg e]
     refine a.st hz hk (hf t a hla fun q hqq hqt=>?_)
     rcases List.mem_cons.1 (hav q hqq hqt) with h | h
     ·exfalso
      apply e
      rw [← hqt]
      exact (qs_uniq' hm hqm hqq h.symm)
     ·exact h
   cases hop with
   | r hD=>exact does_run (d:=d) hd hdn' ho (wanted_none rfl) hsz hinv (hD _ rfl rfl w0 F0 Z0 w F Z tmps hsz hinv hon) next
   | @g op ty dst pos aft av j dj b t oj hj hdj hl' ht hjn hD =>
    have hjn':dj<tmps.size:=by rw [hsz];simpa [Nat.blt_eq] using hjn
    have hy:=yield_of hj hdj hjn' (hslot dj (by simp [reads,hj,hdj]) _ hl')
    exact does_run (d:=d) hd hdn' ho (by simp [Region.wanted,hy,ht]) hsz hinv (hD _ rfl rfl w0 F0 Z0 w F Z tmps hsz hinv hon) next
   | @u op ty dst pos aft j dj b t oj hj hdj hl' ht hjn =>
    have hjn':dj<tmps.size:=by rw [hsz];simpa [Nat.blt_eq] using hjn
    have hy:=yield_of hj hdj hjn' (hslot dj (by simp [reads,hj,hdj]) _ hl')
    refine .unwanted ho (by subst ht;cases b <;> simp [Region.wanted,hy]) ?_
    rw [show (⟨dst,op,ty,pos,aft,some (j,b)⟩:Oper).dst=some d from hd]
    exact next undef w Z hinv (fun _ x=>x) (Keep.refl _ _) rfl
   | @v op ty dst pos aft j dj b oj hj hdj hl' hjn =>
    have hjn':dj<tmps.size:=by rw [hsz];simpa [Nat.blt_eq] using hjn
    have hy:=yield_none hj hdj hjn' (hslot dj (by simp [reads,hj,hdj]) _ hl')
    refine .unwanted ho (by simp [Region.wanted,hy]) ?_
    rw [show (⟨dst,op,ty,pos,aft,some (j,b)⟩:Oper).dst=some d from hd]
    exact next undef w Z hinv (fun _ x=>x) (Keep.refl _ _) rfl
inductive Ext (ts:List Nat):Fr→Fr→Prop
 | z {B:Fr}:Ext ts B B
 | s {t:Nat} {a:AV} {F B:Fr}:ts.elem t=true→Ext ts F B→Ext ts ((t,a)::F) B
theorem Ext.look {ts:List Nat} {F B:Fr} (h:Ext ts F B) {t:Nat} (ht:ts.elem t=false):look F t=look B t:=by
 induction h with
 | z=>rfl
 | @s u a F B hu _ ih =>
  have:(u == t)=false:=by
   cases e:u == t with
   | false=>rfl
   | true =>
        have:u=t:=by simpa using e
        subst this;rw [hu] at ht;cases ht
  simp only [S.look,this,cond_false]
  exact ih
theorem look_slots {fe:Fr} {t:Nat}:look fe t=none↔(fe.map (·.1)).elem t=false:=by
 induction fe with
 | nil=>simp [look]
 | cons p fe ih =>
  obtain ⟨u,a⟩:=p
  by_cases e:u=t
  ·subst e;simp [look]
  ·have h1:(u == t)=false:=by simpa using e
   have h2:(t == u)=false:=by simpa using fun h=>e (Eq.symm h)
   simp only [look,h1,cond_false,ih,List.map_cons,List.elem_cons,h2]
def unOk (ops:Array Oper) (ids:List (Nat×Nat)) (fs dn:List Nat) (e:Nat) (un:List Nat):Bool :=
 (ids.all fun q=>(bitsOf ops e).testBit q.1 || (dn.any fun j=>(bitsOf ops j).testBit q.1) || un.elem q.2) && (un.all fun t=>ids.any fun q=>q.2 == t) && fs.all fun t=>!un.elem t
def feOk (ops:Array Oper) (un dn fs fs':List Nat):Bool :=
 (fs'.all fun t=>!un.elem t) && (dn.all fun j=>match (ops[j]?).bind (·.dst) with
  | some t=>fs'.elem t
  | none=>true) && fs.all fun t=>fs'.elem t
theorem look_pass {qs:Qs} {t:Nat} (p:Nat×Nat×AV→Bool) (h:∀ q ∈ qs,q.2.1=t→p q=true):look ((qs.filter p).map (·.2)) t=look (qs.map (·.2)) t:=by
 induction qs with
 | nil=>rfl
 | cons q qs ih =>
  obtain ⟨i,d,a⟩:=q
  have ih:=ih fun q hq=>h q (List.mem_cons_of_mem _ hq)
  by_cases e:d=t
  ·subst e
   have:=h (i,d,a) (List.mem_cons_self ..) rfl
   simp [List.filter_cons,this,look]
  ·have hb:(d == t)=false:=by simpa using e
   simp only [List.filter_cons,List.map_cons,look,hb,cond_false]
   split
   ·simp only [List.map_cons,look,hb,cond_false];exact ih
   ·exact ih
theorem look_mem {fe:Fr} {t:Nat} {a:AV} (h:look fe t=some a):(t,a) ∈ fe:=by
 induction fe with
 | nil=>simp [look] at h
 | cons p fe ih =>
  obtain ⟨u,b⟩:=p
  simp only [look] at h
  by_cases e:u=t
  ·subst e;simp at h;subst h;exact List.mem_cons_self ..
  ·have hb:(u == t)=false:=by simpa using e
   rw [hb] at h;exact List.mem_cons_of_mem _ (ih h)
theorem same_ops {qs:Qs} {ns:List Nat} (hm:mOk ops (qs.map fun q=>(q.1,q.2.1)) ns=true) {i j:Nat} {o:Oper} (hi:ops[i]?=some o) (hj:ops[j]?=some o):i=j:=by
 simp only [mOk,Bool.and_eq_true] at hm
 have h4:=(all_lt _ _).1 hm.2
 have lt:∀ {i:Nat},ops[i]?=some o→i<ops.size:=by
  intro i hi
  rcases Nat.lt_or_ge i ops.size with h | h
  ·exact h
  ·simp [h] at hi
 rcases Nat.lt_trichotomy i j with h | h | h
 ·have:=(all_lt _ _).1 (h4 j (lt hj)) i h
  simp [hi,hj] at this
 ·exact h
 ·have:=(all_lt _ _).1 (h4 i (lt hi)) j h
  simp [hi,hj] at this
theorem same_list {qs:Qs} {ns:List Nat} (hm:mOk ops (qs.map fun q=>(q.1,q.2.1)) ns=true):∀ {ks is:List Nat} {l:List Oper},ks.map (fun i=>ops[i]?)=l.map some→is.map (fun i=>ops[i]?)=l.map some→ks=is:=by
 intro ks
 induction ks with
 | nil =>
  intro is l h1 h2
  cases l with
  | nil=>simpa using h2.symm
  | cons o l=>simp at h1
 | cons i ks ih =>
  intro is l h1 h2
  cases l with
  | nil=>simp at h1
  | cons o l =>
   cases is with
   | nil=>simp at h2
   | cons j is =>
    simp only [List.map_cons,List.cons.injEq] at h1 h2
    rw [same_ops hm h1.1 h2.1,ih h1.2 h2.2]
theorem mE {qs:Qs} {fr0 fe:Fr} {ns dn es:List Nat} {e:Nat} {o:Oper} (un pend:List Nat) (hb:backOk ops=true) (hm:mOk ops (qs.map fun q=>(q.1,q.2.1)) ns=true) (hp:pendOk ops (qs.map fun q=>(q.1,q.2.1)) dn pend=true) (hun:unOk ops (qs.map fun q=>(q.1,q.2.1)) (fe.map (·.1)) dn e un=true) (ho:ops[e]?=some o) (hns:ns.elem e=true)
  (hq:QP P n H ops (fe++(qs.map (·.2)++fr0)) qs pend)
  (h:∀ (ab:Fr) (l:List Oper),(∀ {F':Fr} {H' H'':List Res} (fe':Fr) (js:List Nat),Sub fe' F'→Ext (fe'.map (·.1)) F' (frL un (fe++(qs.map (·.2)++fr0))++ab)→S.pickR H' js=H''→feOk ops un (e::dn) (fe.map (·.1)) (fe'.map (·.1))=true→SimM P f n ops k qs fr0 ns (e::dn) es fe' H'' x X K→SimL P f n ops l k F' H' x X K) →
   SimL P f n ops (o::l) k (frL un (fe++(qs.map (·.2)++fr0))++ab) H x X K):SimM P f n ops k qs fr0 ns dn (e::es) fe H x X K:=by
 refine mQ pend hb hm hq hp ?_
 intro S is hl hhead hcl hdn hfe hes r hr w0 F0 Z0 w F Z tmps hsz hinv hf
 have hm0:=hm
 simp only [mOk,Bool.and_eq_true] at hm0
 simp only [unOk,Bool.and_eq_true] at hun
 cases hl with
 | nil _=>simp at hes
 | @cons _ is i o' ho' hn he hl =>
  have hi:=hhead i is rfl
  rw [List.filter_cons,hi,if_pos rfl] at hes
  simp only [List.cons.injEq] at hes
  obtain ⟨rfl,hes⟩:=hes
  rw [ho] at ho';cases ho'
  have hlen:∀ (l:List Oper) (bs:List Nat),(bef bs l).length=bs.length+l.length:=by
   intro l
   induction l with
   | nil=>intro bs;simp [bef]
   | cons o l ih=>intro bs;simp only [bef];rw [ih];simp;omega
  have bitsS:∀ j ∈ dn,∀ q,(bitsOf ops j).testBit q=true→q ∈ S:=by
   intro j hj q hq'
   have:∃ p,ops[j]?=some p:=by
    rcases Nat.lt_or_ge j ops.size with hlt | hge
    ·exact ⟨ops[j],by simp [hlt]⟩
    ·exfalso
     have:(bef [] ops.toList).length≤j:=by rw [hlen];simpa using hge
     simp only [bitsOf,List.getD_eq_getElem?_getD,List.getElem?_eq_none this,Option.getD_none,Nat.zero_testBit] at hq'
     cases hq'
   obtain ⟨p,hp⟩:=this
   exact bits_in hb hcl hp (hcl j (hdn j hj) p hp) hq'
  have hav:∀ q ∈ qs,un.elem q.2.1=false→q.1 ∈ S:=by
   intro q hqq hqu
   have:=List.all_eq_true.1 hun.1.1 (q.1,q.2.1) (List.mem_map.2 ⟨q,hqq,rfl⟩)
   simp only [hqu,Bool.or_false,Bool.or_eq_true] at this
   rcases this with h | h
   ·exact bits_in hb hcl ho he h
   ·rw [List.any_eq_true] at h
    obtain ⟨j,hj1,hj2⟩:=h
    exact bitsS j hj1 _ hj2
  have hunq:∀ t,un.elem t=true→∃ q ∈ qs,q.2.1=t:=by
   intro t ht
   have:=List.all_eq_true.1 hun.1.2 t (by simpa using ht)
   rw [List.any_eq_true] at this
   obtain ⟨q,hq1,hq2⟩:=this
   obtain ⟨p,hp1,rfl⟩:=List.mem_map.1 hq1
   exact ⟨p,hp1,by simpa using hq2⟩
  have hqns:∀ q ∈ qs,q.1≠i:=by
   intro q hqq e
   have:=List.all_eq_true.1 hm0.1.1.2 (q.1,q.2.1) (List.mem_map.2 ⟨q,hqq,rfl⟩)
   rw [Bool.and_eq_true] at this
   rw [e,hi] at this
   simp at this
  have hqfr:∀ {t:Nat} {a:AV},(∃ q ∈ qs,q.2.1=t)→look (qs.map (·.2)++fr0) t=some a→look (qs.map (·.2)) t=some a:=by
   rintro t a ⟨q,hqq,rfl⟩ hla
   rw [look_app] at hla
   cases hc:look (qs.map (·.2)) q.2.1 with
   | some b=>rw [hc] at hla;exact hla
   | none =>
    rw [look_slots] at hc
    have:q.2.1 ∉ (qs.map (·.2)).map (·.1):=by simpa using hc
    exact absurd (List.mem_map.2 ⟨q.2,List.mem_map.2 ⟨q,hqq,rfl⟩,rfl⟩) this
  let ab:Fr:=(qs.filter fun q=>S.elem q.1 && un.elem q.2.1).map (·.2)
  have hab:∀ {t:Nat} {a:AV},look ab t=some a→un.elem t=true∧look (qs.map (·.2)) t=some a∧Avl qs S t:=by
   intro t a hla
   have hmem:=look_mem hla
   obtain ⟨q,hq1,hq2⟩:=List.mem_map.1 hmem
   rw [List.mem_filter,Bool.and_eq_true] at hq1
   obtain ⟨hqq,hqs,hqu⟩:=hq1
   rw [hq2] at hqu
   have hall:Avl qs S t:=fun p hp hpt=>by
    have:p.1=q.1:=qs_uniq hm hp hqq (by rw [hpt,hq2])
    rw [this];simpa using hqs
   refine ⟨hqu,?_,hall⟩
   rw [← look_pass (fun q=>S.elem q.1 && un.elem q.2.1) (fun p hp hpt=>by
    rw [Bool.and_eq_true]
    exact ⟨by simpa using hall p hp hpt,by rw [hpt];exact hqu⟩)]
   exact hla
  have hba:∀ {t:Nat} {a:AV},un.elem t=true→look (qs.map (·.2)) t=some a→Avl qs S t→look ab t=some a:=by
   intro t a ht hla hall
   show look ((qs.filter _).map (·.2)) t=_
   rw [look_pass _ (fun p hp hpt=>by
    rw [Bool.and_eq_true]
    exact ⟨by simpa using hall p hp hpt,by rw [hpt];exact ht⟩)]
   exact hla
  refine h ab (is.filterMap fun i=>ops[i]?) ?_ (i::is) (by simp [ho,lin_map hl]) r hr w0 F0 Z0 w F Z tmps hsz hinv ?_
  ·intro F' H' H'' fe' js hsub hext hpk hok hM ks hks
   have hke:=same_list hm hks (lin_map hl)
   subst hke
   simp only [feOk,Bool.and_eq_true] at hok
   intro r2 hr2 w0' F0' Z0' w' F'' Z' tmps' hn' hi' hf'
   refine hM (i::S) ks hl (hcl.add ho he) (fun j hj=>?_) (fun q hqq hqn=>?_) hes r2 hr2 w0' F0' Z0' w' F'' Z' tmps' hn' (hpk ▸ hi'.less (·.pickR js)) ?_
   ·rcases List.mem_cons.1 hj with rfl | hj
    ·exact List.mem_cons_self ..
    ·exact List.mem_cons_of_mem _ (hdn j hj)
   ·rw [look_slots]
    cases hu:un.elem q.2.1 with
    | false=>exact absurd (List.mem_cons_of_mem _ (hav q hqq hu)) hqn
    | true =>
     cases hc:(fe'.map (·.1)).elem q.2.1 with
     | false=>rfl
     | true =>
      have:=List.all_eq_true.1 hok.1.1 q.2.1 (by simpa using hc)
      rw [hu] at this;cases this
   ·intro t a hla hall
    rw [look_app] at hla
    cases hc:look fe' t with
    | some b =>
     rw [hc] at hla
     exact hf' t a (hsub.look (by rw [hc];exact hla))
    | none =>
     rw [hc] at hla
     have hc':=look_slots.1 hc
     refine hf' t a ?_
     rw [hext.look hc',look_app,look_frL]
     cases hu:un.elem t with
     | true =>
      simp only [if_true]
      obtain ⟨q,hqq,hqt⟩:=hunq t hu
      refine hba hu (hqfr ⟨q,hqq,hqt⟩ hla) fun p hp hpt=>?_
      rcases List.mem_cons.1 (hall p hp hpt) with h | h
      ·exact absurd h (hqns p hp)
      ·exact h
     | false =>
      have hfe0:look fe t=none:=by
       rw [look_slots]
       cases hc2:(fe.map (·.1)).elem t with
       | false=>rfl
       | true =>
        have:=List.all_eq_true.1 hok.2 t (by simpa using hc2)
        rw [this] at hc';cases hc'
      simp only [Bool.false_eq_true,if_false,look_app fe,hfe0,hla]
  ·intro t a hla
   rw [look_app,look_frL] at hla
   cases hu:un.elem t with
   | true =>
    rw [hu] at hla
    simp only [if_true] at hla
    obtain ⟨_,h2,h3⟩:=hab hla
    refine hf t a ?_ h3
    have hfe0:look fe t=none:=by
     rw [look_slots]
     cases hc2:(fe.map (·.1)).elem t with
     | false=>rfl
     | true =>
      have:=List.all_eq_true.1 hun.2 t (by simpa using hc2)
      rw [hu] at this;cases this
    rw [look_app,hfe0,look_app,h2]
   | false =>
    rw [hu] at hla
    simp only [Bool.false_eq_true,if_false] at hla
    cases hc:look (fe++(qs.map (·.2)++fr0)) t with
    | some b =>
     rw [hc] at hla
     exact hf t a (by rw [hc];exact hla) fun q hqq hqt=>hav q hqq (by rw [hqt];exact hu)
    | none =>
     rw [hc] at hla
     have:=(hab hla).1
     rw [hu] at this;cases this
theorem mEnd {qs:Qs} {fr0 fe:Fr} {ns dn:List Nat} (pend:List Nat) (hb:backOk ops=true) (hm:mOk ops (qs.map fun q=>(q.1,q.2.1)) ns=true) (hp:pendOk ops (qs.map fun q=>(q.1,q.2.1)) dn pend=true) (hq:QP P n H ops (fe++(qs.map (·.2)++fr0)) qs pend)
  (h:Sim P f n k (fe++(qs.map (·.2)++fr0)) H x X K):SimM P f n ops k qs fr0 ns dn [] fe H x X K:=by
 refine mQ pend hb hm hq hp ?_
 intro S is hl hhead hcl hdn hfe hes r hr w0 F0 Z0 w F Z tmps hsz hinv hf
 have hm0:=hm
 simp only [mOk,Bool.and_eq_true] at hm0
 cases hl with
 | nil hS =>
  refine .regionEnd (h r hr w0 F0 Z0 w F Z tmps hsz hinv fun t a hla=>hf t a hla fun q hqq _=>hS _ ?_)
  have:=List.all_eq_true.1 hm0.1.2 (q.1,q.2.1) (List.mem_map.2 ⟨q,hqq,rfl⟩)
  rcases Nat.lt_or_ge q.1 ops.size with h | h
  ·exact h
  ·simp [h] at this
 | @cons _ is i o' ho' hn he hl =>
  have hi:=hhead i is rfl
  rw [List.filter_cons,hi,if_pos rfl] at hes
  cases hes
theorem Pb {id:Nat} (qs:Qs) (ns:List Nat) (L:List (List Nat)) (hmx:P.follows .mixedOrders=true) (hb:backOk ops=true) (hm:mOk ops (qs.map fun q=>(q.1,q.2.1)) ns=true) (hns:ns.all (fun i=>Nat.blt i ops.size)=true) (hL:extsE ops (bef [] ops.toList) ns ns.length []=L)
  (h:Each (fun es=>SimM P f n ops k qs fr ns [] es [] H x X K) L):Sim P f n (.code (.region id ops true)::k) fr H x X K:=by
 intro r hr w0 F0 Z0 w F Z tmps hn hi hf
 refine .regionDraw fun t=>?_
 have hlin:=lin_schedule hmx ops hb t
 have hcl:Closed ops []:=fun i hi=>by cases hi
 have hmem:=lin_extsE hb (ns:=ns) (fun i hi=>by have:=List.all_eq_true.1 hns i hi;simpa [Nat.blt_eq] using this) hlin hcl ns.length [] (fun j _=>by simp) (List.length_filter_le _ _)
 rw [hL] at hmem
 refine h.mem _ hmem [] _ hlin hcl (fun i hi=>by cases hi) (fun _ _ _=>rfl) rfl r hr w0 F0 Z0 _ F Z tmps hn (hi.quiet (Step.drew w _) (fun _ x=>x) (fun _ x=>.inl x)) fun t a hla hav=>?_
 refine AV.st a (w:=w) (w':={ w with drawn:=w.drawn+1 }) (fun _ x=>x) (fun _ _=>rfl) (hf t a ?_)
 rw [List.nil_append,look_app] at hla
 cases hc:look (qs.map (·.2)) t with
 | none=>rw [hc] at hla;exact hla
 | some b =>
  obtain ⟨q,hq1,hq2⟩:=List.mem_map.1 (look_mem hc)
  exact absurd (hav q hq1 (by rw [hq2])) (by simp)
end
end S
namespace S
open Go.RowKit
set_option linter.unusedVariables false
set_option linter.unusedSimpArgs false
def bytesL (s:ByteArray):List Int:=s.data.toList.map fun b=>(b.toNat:Int)
def strL (xs:List Int):ByteArray:=⟨(xs.map fun n=>UInt8.ofNat n.toNat).toArray⟩
theorem bytesL_length (s:ByteArray):(bytesL s).length=s.size:=by simp [bytesL]
theorem strCells_eq (s:ByteArray):Lib.strCells s=(bytesL s).map (Value.int .u8):=by simp [Lib.strCells,bytesL]
theorem rows_u8 {Z:Nat→Prop} {w:World} (xs:List Int):Rows (cI .u8) Z w xs (xs.map (Value.int .u8)):=by
 intro i x hx
 refine ⟨[.int .u8 x],.cons rfl .nil,fun j u hj=>?_⟩
 cases j with
 | zero =>
  simp at hj;subst hj
  show (xs.map (Value.int .u8))[i*1+0]?=_
  simp [hx]
 | succ j=>simp at hj
section
variable {P:Program} {f:FuncId} {n:Nat} {ops:Array Oper} {l:List Oper} {k:List Item} {fr:Fr} {H:List Res} {ρ R:Type} {x:Option ρ} {X:ρ→Option R} {K:R→AV→List Res→Prop} {ty t t' e u:TypeId} {d:Nat} {pos:String} {aft:Array Edge}
def IsPtr (a:AV):Prop:=∀ Z w v,a.p Z w v→∃ ad,v = .pointer (some ad)
theorem ptLit {a:Addr}:IsPtr (.lit (.pointer (some a))):=fun _ _ _ e=>⟨a,e⟩
theorem ptF {aS:List AV}:IsPtr (.fptr aS):=fun _ _ _ ⟨a,e,_⟩=>⟨a,e⟩
theorem dNc {y:Operand} {a:AV} (hp:IsPtr a) (hy:arg fr y=some a):D P n H (.nilCheck y) ty fr a :=
 .of fun o ho hty w Z F ρ _ hf=>by
  have h:=hf (by simp [Op.operands]) hy
  obtain ⟨ad,e⟩:=hp _ _ _ h
  exact ⟨ρ y,by simp [execOp,ho,e,Sem.run_pure],h⟩
def IA (P:Program) (t:TypeId) (kd:IntKind) (i:Int) (off:Nat):Prop:=∀ a w,(Instr.indexAt t (.pointer (some a)) (.int kd i)).run P w = .ok (.pointer (some (a.add off))) w
theorem ge {y z:Operand} {kd:IntKind} {i:Int} {b o off:Nat} (hf':IA P t kd i off) (hy:arg fr y=some (.lit (.pointer (some ⟨b,o,none⟩)))) (hz:arg fr z=some (Ai kd i)):D P n H (.indexAddr t y z) ty fr (.lit (.pointer (some ⟨b,o+off,none⟩))) :=
 .of fun q ho hty w Z F ρ _ hf=>by
  have e1:ρ y=_:=hf (by simp [Op.operands]) hy
  have e2:ρ z=_:=hf (by simp [Op.operands]) hz
  exact ⟨.pointer (some ⟨b,o+off,none⟩),by simp [execOp,ho,e1,e2,hf' _ w,Sem.run_bind,Addr.add_lit],rfl⟩
theorem dMin {y z:Operand} {ts:Array TypeId} {kd:IntKind} {a b:Int} (hy:arg fr y=some (Ai kd a)) (hz:arg fr z=some (Ai kd b)):D P n H (.call ⟨.builtin .min,#[y,z],ts⟩) ty fr (Ai kd (if b<a then b else a)) :=
 .of fun o ho hty w Z F ρ _ hf=>by
  have h1:ρ y=_:=hf (by simp [Op.operands,Call.operands]) hy
  have h2:ρ z=_:=hf (by simp [Op.operands,Call.operands]) hz
  exact ⟨.int kd (if b<a then b else a),by simp [execOp,ho,h1,h2,resolve,invoke,builtin,Builtin.min_,Builtin.min2,Sem.run_bind,Sem.run_pure],rfl⟩
theorem vd {s:ByteArray} {y a:Operand} {ka:IntKind} {i:Int} (ht:P.underlying t=some .string) (hy:arg fr y=some (.lit (.string s))) (ha:arg fr a=some (Ai ka i)) (h0:0≤i) (h1:i≤s.size):D P n H (.slice t y (some a) none none) ty fr (.lit (.string (sls s i s.size))) :=
 .of fun o ho hty w Z F ρ hH hf=>by
  have e1:ρ y=_:=hf (by simp [Op.operands]) hy
  have e2:ρ a=_:=hf (by simp [Op.operands]) ha
  exact ⟨.string (sls s i s.size),by simp [execOp,ho,e1,e2,Instr.sliceAt,Instr.slice,Instr.sliceBounds,Instr.sliceBound,run_underlying ht,Sem.run_bind,asIntOf,h0,h1,sls],rfl⟩
theorem Vc {s:ByteArray} {y b:Operand} {kb:IntKind} {m:Int} (ht:P.underlying t=some .string) (hy:arg fr y=some (.lit (.string s))) (hb:arg fr b=some (Ai kb m)) (h1:0≤m) (h2:m≤s.size):D P n H (.slice t y none (some b) none) ty fr (.lit (.string (sls s 0 m))) :=
 .of fun o ho hty w Z F ρ hH hf=>by
  have e1:ρ y=_:=hf (by simp [Op.operands]) hy
  have e3:ρ b=_:=hf (by simp [Op.operands]) hb
  exact ⟨.string (sls s 0 m),by simp [execOp,ho,e1,e3,Instr.sliceAt,Instr.slice,Instr.sliceBounds,Instr.sliceBound,run_underlying ht,Sem.run_bind,asIntOf,h1,h2,sls],rfl⟩
theorem sCSB {y:Operand} {s:ByteArray} (ht:P.underlying t=some .string) (ht':P.underlying t'=some (.slice e)) (he:P.underlying e=some (.int .u8)) (hs:(s.size:Int)≤140737488355328) (hy:arg fr y=some (.lit (.string s))) (hdn:Nat.blt d n=true)
  (h:∀ v,SimL P f n ops l k ((d,.sv v)::fr) (.own e (cI .u8) v (bytesL s)::H) x X K):SimL P f n ops (⟨some d,.convert t t' y,ty,pos,aft,none⟩::l) k fr H x X K:=by
 refine Qb (I:=Value) (fun o ho hty w0 F0 Z0 w F Z ρ hinv hf=>?_) hdn h
 have e1:ρ y=_:=hf (by simp [Op.operands]) hy
 have hr:=run_bytes_of_string (P:=P) w t t' e s ht ht' he
 have hge:=grownCap_ge w s.size 0 e
 have hcm:=grownCap_le_maxLen w s.size 0 e (by unfold maxLen;omega)
 have hsz:(bytesRow s (grownCap w s.size 0 e)).size=grownCap w s.size 0 e:=by
  have:s.data.size=s.size:=rfl
  simp only [bytesRow,Array.size_append,Array.size_map,Array.size_replicate,this];omega
 have hpush:=(Inv.push (H:=H) (w:=w.drew) (w0:=w0) (F0:=F0) (Z0:=Z0) (F:=F) (Z:=Z) (hinv.quiet (Step.drew w _) (fun _ x=>x) (fun _ x=>.inl x)) (.cells (bytesRow s (grownCap w s.size 0 e)) e ((bytesRow s (grownCap w s.size 0 e)).size,(bytesRow s (grownCap w s.size 0 e)).size+1)) (.own e (cI .u8) (.slice (some ⟨w.heap.size,0,none⟩) s.size (grownCap w s.size 0 e)) (bytesL s)))
 refine ⟨_,_,.slice (some ⟨w.heap.size,0,none⟩) s.size (grownCap w s.size 0 e),_,Z,by simp only [execOp,ho,e1,hr,Sem.run_bind,Result.andThen_ok,Sem.run_pure],hpush ?_,fun _ x=>x,fun b hb=>?_,rfl,_,_,_,rfl⟩
 ·refine .inl ⟨(bytesL s).map (Value.int .u8),⟨by simp [cI],.inr ⟨w.heap.size,grownCap w s.size 0 e,_,by rw [bytesL_length],Nat.zero_le _,⟨_,heap_alloc_new w.drew _,.inr (Nat.le_refl _)⟩,by rw [bytesL_length];exact hge,hcm,by rw [hsz];simp [cI],?_⟩⟩,fun b hb=>?_,rows_u8 _⟩
  ·have e2:(bytesRow s (grownCap w s.size 0 e)).toList=Lib.strCells s++List.replicate (grownCap w s.size 0 e-s.size) (.int .u8 0):=by
    simp [bytesRow,Lib.strCells]
   have e3:(bytesL s).length*(cI .u8).sz=(Lib.strCells s).length:=by rw [bytesL_length,Lib.strCells_length];simp [cI]
   rw [e2,e3,List.take_left,strCells_eq]
  ·simp [Value.ownBlock] at hb;exact hb.symm
 ·exact Below.heap_alloc w.drew _ b (hinv.zin b hb).1
theorem Jd {y:Operand} {xs:List Int} (ht:P.underlying t=some (.slice e)) (he:P.underlying e=some (.int .u8)) (ht':P.underlying t'=some .string) (hy:arg fr y=some (.fsl (cI .u8) xs)):D P n H (.convert t t' y) ty fr (.lit (.string (strL xs))) :=
 .of fun o ho hty w Z F ρ _ hf=>by
  obtain ⟨A,m,e1,hm,hel⟩:=hf (by simp [Op.operands]) hy
  cases A with
  | none =>
   have:xs=[]:=by
    cases xs with
    | nil=>rfl
    | cons a xs=>obtain ⟨_,h,_⟩:=hel 0 a rfl;cases h
   subst this
   refine ⟨.string (strL []),?_,rfl⟩
   have:=run_convert_bytes_nil (P:=P) w t e ht he 0 m t' ht'
   simp only [execOp,ho,e1,List.length_nil,this,Sem.run_bind,Result.andThen_ok,Sem.run_pure]
   rfl
  | some a =>
   obtain ⟨b,off,sp⟩:=a
   have hl:(loadCells ⟨b,off,sp⟩ xs.length).run P w = .ok (xs.map (Value.int .u8)).toArray w:=by
    have:=run_loadCells_list (P:=P) w ⟨b,off,sp⟩ (xs.map (Value.int .u8)) (fun j v hj=>by
     rw [List.getElem?_map] at hj
     cases hx:xs[j]? with
     | none=>rw [hx] at hj;cases hj
     | some q =>
      rw [hx] at hj
      simp at hj;subst hj
      obtain ⟨a',ha',_,vs,h1,h2⟩:=hel j q hx
      cases ha'
      cases h1 with
      | cons h1 h3 =>
       cases h3
       have:=h2 0 _ rfl
       simp only [cI,Nat.mul_one] at this
       rw [show (⟨b,off,sp⟩:Addr).add j=((⟨b,off,sp⟩:Addr).add j).add 0 by simp [Addr.add],this]
       exact congrArg some h1)
    simpa using this
   refine ⟨.string (strL xs),?_,rfl⟩
   have hr:=run_convert_bytes_string (P:=P) w t t' e (some ⟨b,off,sp⟩) xs.length m ht he ht'
   have hb:=run_bytesToString (P:=P) w ⟨b,off,sp⟩ xs.length m xs hl
   have hs:xs.foldl (fun r n=>r.push (UInt8.ofNat n.toNat)) ByteArray.empty=strL xs:=by
    rw [foldl_push_bytes]
    simp [strL,ByteArray.empty,ByteArray.emptyWithCapacity]
    rfl
   simp only [execOp,ho,e1,hr,hb,hs,Sem.run_bind,Result.andThen_ok,Sem.run_pure]
theorem run_append_str (w:World) (t u ty e:TypeId) (i:TypeInfo) (ht:P.underlying t=some (.slice e)) (hu:P.underlying u=some .string) (hi:P.info? e=some i) (hz:i.zero=some (.int .u8 0))
  (hsize:i.size=1) (hby:i.bytes=1) (v:Value) (n:Nat) (xs:List Value) (hown:rowOwn w e 1 v n xs) (s:ByteArray) (h63:n+s.size≤maxLen) (hbytes:n+s.size≤140737488355328) :
  ∃ v' w',(Builtin.append_ #[t,u] ty #[v,.string s]).run P w = .ok v' w'∧rowOwn w' e 1 v' (n+s.size) (xs++Lib.strCells s)∧w.grownBy w' v.ownBlock∧(v'.ownBlock=v.ownBlock∨v'.ownBlock=some w.heap.size):=by
 have hxl:xs.length=n:=by simpa using hown.1
 have hsmall:n+s.size≤9223372036854775807:=by simp only [maxLen] at h63;omega
 have hlen:(xs++Lib.strCells s).length=(n+s.size)*1:=by rw [List.length_append,hxl,Lib.strCells_length,Nat.mul_one]
 have grown:∀ old,rowOwn (w.drew.alloc (.cells (xs.toArray++(Lib.strCells s).toArray++Builtin.zeroCells (Value.int .u8 0).cells (grownCap w (n+s.size) old e-(n+s.size))) e)) e 1 (.slice (some ⟨w.heap.size,0,none⟩) (n+s.size) (grownCap w (n+s.size) old e)) (n+s.size) (xs++Lib.strCells s):=by
  intro old
  have hge:=grownCap_ge w (n+s.size) old e
  have hcm2:grownCap w (n+s.size) old e≤maxLen:=grownCap_le_maxLen w (n+s.size) old e h63
  have hz1:(Value.int IntKind.u8 0).cells.size=1:=rfl
  refine ⟨hlen,.inr ⟨w.heap.size,_,_,rfl,Nat.zero_le _,.new (heap_alloc_new w.drew _),hge,hcm2,?_,?_⟩⟩
  ·simp only [Array.size_append,List.size_toArray,size_zeroCells,hz1,hxl,Lib.strCells_length]
   omega
  ·simp only [Array.toList_append,List.append_assoc]
   rw [← List.append_assoc,← hlen]
   exact List.take_left
 have gby:∀ o row,w.grownBy (w.drew.alloc o) row:=fun o row=>⟨rfl,rfl,rfl,by simp,fun k hk _=>Below.heap_alloc w.drew _ k hk⟩
 rcases hown.2 with ⟨rfl,rfl⟩ | ⟨g,cap,cur,rfl,hbg,⟨fz,hg,hfz⟩,hnc,hcm,hcs,htake⟩
 ·have hx:xs=[]:=List.eq_nil_of_length_eq_zero hxl
  subst hx
  by_cases h0:s.size=0
  ·refine ⟨.slice none 0 0,w,?_,?_,⟨rfl,rfl,rfl,Nat.le_refl _,fun _ _ _=>rfl⟩,.inl rfl⟩
   ·have hf:=Lib.run_firstCells_string (P:=P) w 1 s
    rw [h0] at hf
    simp [Builtin.append_,run_underlying ht,run_underlying hu,sizeOf,typeInfo,hi,hsize,Builtin.lenOf,h0,hf]
   ·have:Lib.strCells s=[]:=List.eq_nil_of_length_eq_zero (by rw [Lib.strCells_length,h0])
    rw [this,h0]
    exact ⟨by simp,.inl ⟨rfl,rfl⟩⟩
  ·have hr:=run_append_nil_string (P:=P) w t u ty e i (.int .u8 0) ht hu hi hz s (by omega) (by omega) (by rw [hby];omega)
   have hg:=grown 0
   have he:s.data.map (fun b=>Value.int .u8 b.toNat)=(([]:List Value).toArray++(Lib.strCells s).toArray):=by
    apply Array.ext'
    simp [Lib.strCells]
   rw [he] at hr
   simp only [Nat.zero_add] at hg
   exact ⟨_,_,hr,by simpa only [Nat.zero_add] using hg,gby _ _,.inr rfl⟩
 ·by_cases hroom:n+s.size≤cap
  ·have hfit:n+s.size≤cur.size:=by rw [hcs];omega
   have hf:=Lib.run_firstCells_string (P:=P) w 1 s
   have hst:=run_storeCells_fz (P:=P) g n e fz (Lib.strCells s) 0 cur w hg hfz (by simpa [Lib.strCells_length] using hfit) (Lib.strCells_oneCell s)
   simp only [Nat.add_zero,Lib.strCells_length] at hst
   have hr:(Builtin.append_ #[t,u] ty #[.slice (some ⟨g,0,none⟩) n cap,.string s]).run P w =
     .ok (.slice (some ⟨g,0,none⟩) (n+s.size) cap) (w.setRow g (cur.toList.take n++Lib.strCells s++cur.toList.drop (n+s.size)).toArray):=by
    simp [Builtin.append_,run_underlying ht,run_underlying hu,sizeOf,typeInfo,hi,hsize,Builtin.lenOf,hroom,hf,Addr.add_lit,hst]
   have hsame:(cur.toList.take n++Lib.strCells s++cur.toList.drop (n+s.size)).toArray.size=cur.size:=by
    simp only [List.size_toArray,List.length_append,List.length_take,List.length_drop,Array.length_toList,Lib.strCells_length];omega
   refine ⟨_,_,hr,⟨hlen,.inr ⟨g,cap,_,rfl,hbg,⟨fz,setRow_heap w g cur _ e _ hg,by rw [hsame];exact hfz⟩,hroom,hcm,by rw [hsame];exact hcs,?_⟩⟩,⟨rfl,rfl,rfl,by simp,fun k _ hk=>setRow_other w g k _ (fun e=>hk (by simp [Value.ownBlock,e]))⟩,Or.inl rfl⟩
   have ht':cur.toList.take n=xs:=by simpa using htake
   rw [ht',← hlen]
   exact List.take_left
  ·have holds:∀ j u,xs[j]?=some u→w.cell? ((⟨g,0,none⟩:Addr).add j)=some u:=by
    intro j u hu
    rw [Addr.add_lit,cell_of_row w g _ cur e fz hg]
    rw [← htake,List.getElem?_take] at hu
    split at hu
    ·simpa using hu
    ·cases hu
   have hr:=Lib.run_append_grow_string (P:=P) w t u ty e i (.int .u8 0) ht hu hi hz ⟨g,0,none⟩ n cap xs (by rw [hsize];simpa using hxl) holds s (by omega) (by omega) (by rw [hby];exact growslice_fits (by omega) (by omega))
   exact ⟨_,_,hr,grown _,gby _ _,Or.inr rfl⟩
theorem append_own_str {w0 w:World} {F0 Z0 F Z:Nat→Prop} {v:Value} {xs:List Int} {s:ByteArray} {j:Nat} (hi:Inv w0 w F0 Z0 F Z H) (ht:P.underlying t=some (.slice e)) (hu:P.underlying u=some .string) (hinfo:Info P e (.int .u8 0) 1 1) (hj:H[j]?=some (.own e (cI .u8) v xs)) (hb:xs.length+s.size≤140737488355328) :
  ∃ v' w' F',(Builtin.append_ #[t,u] ty #[v,.string s]).run P w = .ok v' w'∧Inv w0 w' F0 Z0 F' Z (H.set j (.own e (cI .u8) v' (xs++bytesL s)))∧Keep Z w w'∧∃ A n m,v' = .slice A n m:=by
 obtain ⟨i,i1,i2,i3,i4⟩:=hinfo.parts
 obtain ⟨F1,hown,hF1⟩:=hi.res.at hj
 have hv0:(∃ B,v = .slice B 0 0∧s.size=0∧xs=[])∨∃ v0 cs,rowOwn w e 1 v0 xs.length cs∧Rows (cI .u8) Z w xs cs∧(∀ G1,(Res.own e (cI .u8) v xs).h Z w G1→∀ b,v0.ownBlock=some b→G1 b)∧(Builtin.append_ #[t,u] ty #[v,.string s]).run P w=(Builtin.append_ #[t,u] ty #[v0,.string s]).run P w:=by
  have empty:∀ B,v = .slice B 0 0→xs=[]→(∃ B,v = .slice B 0 0∧s.size=0∧xs=[])∨∃ v0 cs,rowOwn w e 1 v0 xs.length cs∧Rows (cI .u8) Z w xs cs∧(∀ G1,(Res.own e (cI .u8) v xs).h Z w G1→∀ b,v0.ownBlock=some b→G1 b)∧(Builtin.append_ #[t,u] ty #[v,.string s]).run P w=(Builtin.append_ #[t,u] ty #[v0,.string s]).run P w:=by
   rintro B rfl rfl
   by_cases h0:s.size=0
   ·exact .inl ⟨B,rfl,h0,rfl⟩
   refine .inr ⟨.slice none 0 0,[],⟨by simp,.inl ⟨rfl,rfl⟩⟩,by intro i x hx;simp at hx,fun G1 _ b hb=>by simp [Value.ownBlock] at hb,?_⟩
   cases B with
   | none=>rfl
   | some B =>
    have hb':s.size≤140737488355328:=by simpa using hb
    rw [Lib.run_append_grow_string (P:=P) w t u ty e i (.int .u8 0) ht hu i1 i2 B 0 0 [] (by simp) (by simp) s (by omega) (by omega) (by rw [i4];exact growslice_fits (by omega) (by omega))]
    rw [run_append_nil_string (P:=P) w t u ty e i (.int .u8 0) ht hu i1 i2 s (by omega) (by omega) (by rw [i4];omega)]
    have he:s.data.map (fun b=>Value.int .u8 b.toNat)=(([]:List Value).toArray++(Lib.strCells s).toArray):=by
     apply Array.ext'
     simp [Lib.strCells]
    rw [he];simp
  obtain ⟨cs,hr,hbk,hrows⟩ | ⟨hx,B,hB⟩:=hown
  ·by_cases h0:∃ B,v = .slice B 0 0
   ·obtain ⟨B,hB⟩:=h0
    refine empty B hB ?_
    rcases hr.2 with ⟨hv,hn⟩ | ⟨g,cap,cur,hv,_⟩
    ·exact List.eq_nil_of_length_eq_zero hn
    ·rw [hB] at hv;simp at hv
     exact List.eq_nil_of_length_eq_zero hv.2.1.symm
   ·refine .inr ⟨v,cs,hr,hrows,fun G1 hg b hb=>?_,rfl⟩
    obtain ⟨_,_,hbk',_⟩ | ⟨_,B,hB⟩:=hg
    ·exact hbk' b hb
    ·exact (h0 ⟨B,hB⟩).elim
  ·exact empty B hB hx
 rcases hv0 with ⟨B,rfl,h0,rfl⟩ | ⟨v0,cs,hr,hrows,hbk,hrun⟩
 ·have hbl:bytesL s=[]:=List.eq_nil_of_length_eq_zero (by rw [bytesL_length,h0])
  obtain ⟨F',hi',hk⟩:=hi.turn (w':=w) (r':=.own e (cI .u8) (.slice B 0 0) ([]++bytesL s)) hj fun G1 h1 _=>⟨G1,Step.refl _ _,by rw [hbl];exact h1,fun _ x=>.inl x⟩
  refine ⟨_,w,F',?_,hi',hk,_,_,_,rfl⟩
  have hf:=Lib.run_firstCells_string (P:=P) w 1 s
  have hsc:Lib.strCells s=[]:=List.eq_nil_of_length_eq_zero (by rw [Lib.strCells_length,h0])
  rw [h0,hsc] at hf
  cases B <;> simp [Builtin.append_,run_underlying ht,run_underlying hu,sizeOf,typeInfo,i1,i3,Builtin.lenOf,h0,hf,storeCells]
 ·obtain ⟨v',w',r1,r2,r3,r5⟩:=run_append_str (P:=P) (ty:=ty) w t u e i ht hu i1 i2 i3 i4 v0 xs.length cs hr s (by rw [mx];omega) hb
  rw [← hrun] at r1
  obtain ⟨F',hi',hk⟩:=hi.turn (w':=w') (r':=.own e (cI .u8) v' (xs++bytesL s)) hj fun G1 hown' hz1=>by
   have hbk':=hbk G1 hown'
   have st:=Step.of_grown r3 (run_drawn _ r1) G1 hbk'
   have hkz:Keep Z w w':=fun b hz=>st.keep b (hz1 b hz).1 (hz1 b hz).2
   refine ⟨fun b=>G1 b∨(w.heap.size≤b∧b<w'.heap.size),st,.inl ⟨cs++Lib.strCells s,by rw [List.length_append,bytesL_length];exact r2,fun b hb=>?_,?_⟩,fun _ x=>x⟩
   ·rcases r5 with e5 | e5
    ·exact .inl (hbk' b (e5 ▸ hb))
    ·rw [e5] at hb;cases hb
     refine .inr ⟨Nat.le_refl _,?_⟩
     rcases r2.2 with ⟨hv,_⟩ | ⟨g,cap,cur,hv,_,⟨fz,hh,_⟩,_⟩
     ·rw [hv] at e5;cases e5
     ·rw [hv] at e5;simp [Value.ownBlock] at e5;subst e5
      exact (Array.getElem?_eq_some_iff.1 hh).1
   ·have:Rows (cI .u8) Z w (bytesL s) (Lib.strCells s):=by rw [strCells_eq];exact rows_u8 _
    exact (rows_append hrows this (by simpa [cI] using hr.1)).st (fun _ x=>x) hkz
  refine ⟨v',w',F',r1,hi',hk,?_⟩
  rcases r2.2 with ⟨hv,_⟩ | ⟨g,cap,cur,hv,_⟩
  ·exact ⟨_,_,_,hv⟩
  ·exact ⟨_,_,_,hv⟩
theorem zd {y z:Operand} {v:Value} {xs:List Int} {s:ByteArray} {j:Nat} (ht:P.underlying t=some (.slice e)) (hu:P.underlying u=some .string) (hinfo:Info P e (.int .u8 0) 1 1) (hy:arg fr y=some (.sv v)) (hj:H[j]?=some (.own e (cI .u8) v xs)) (hz:arg fr z=some (.lit (.string s))) (hb:(xs.length:Int)+(s.size:Int)≤140737488355328) (hdn:Nat.blt d n=true)
  (h:∀ v',SimL P f n ops l k ((d,.sv v')::fr) (H.set j (.own e (cI .u8) v' (xs++bytesL s))) x X K):SimL P f n ops (⟨some d,.call ⟨.builtin .append,#[y,z],#[t,u]⟩,ty,pos,aft,none⟩::l) k fr H x X K:=by
 refine Qb (I:=Value) (fun o ho hty w0 F0 Z0 w F Z ρ hinv hf=>?_) hdn h
 obtain ⟨e1,_⟩:=hf (by simp [Op.operands,Call.operands]) hy
 have e2:ρ z=_:=hf (by simp [Op.operands,Call.operands]) hz
 obtain ⟨v',w',F',hr,hi',hk,hsl⟩:=append_own_str (ty:=ty) (s:=s) hinv ht hu hinfo hj (by omega)
 exact ⟨v',w',v',F',Z,by simp [execOp,ho,hty,e1,e2,hr,resolve,invoke,builtin,Sem.run_bind],hi',fun _ x=>x,hk,rfl,hsl⟩
theorem Vd {y:Operand} {v:Value} {xs:List Int} {j:Nat} (ht:P.underlying t=some (.slice e)) (he:P.underlying e=some (.int .u8)) (hy:arg fr y=some (.sv v)) (hj:H[j]?=some (.own e (cI .u8) v xs)) (hn:0<xs.length) (hdn:Nat.blt d n=true)
  (h:SimL P f n ops l k ((d,.sv v)::fr) (H.set j (.own e (cI .u8) v xs)) x X K):SimL P f n ops (⟨some d,.convert t t y,ty,pos,aft,none⟩::l) k fr H x X K:=by
 refine Qb (I:=Unit) (av:=fun _=>.sv v) (H':=fun _=>H.set j (.own e (cI .u8) v xs)) (fun o ho hty w0 F0 Z0 w F Z ρ hinv hf=>?_) hdn fun _=>h
 obtain ⟨e1,hsl⟩:=hf (by simp [Op.operands]) hy
 obtain ⟨F1,hown,_⟩:=hinv.res.at hj
 obtain ⟨g,cap,cur,hv,⟨fz,hh,hfz⟩,hcap,hmx,hsz,hF,hrows⟩:=own_cells hown hn
 have hr:(convert t t v).run P w = .ok v (w.freeze ⟨g,cur.size,none⟩ 1):=by
  rw [hv]
  have hs:w.shape? g=some (e,cur.size):=by unfold World.shape?;rw [hh]
  simp [convert,run_underlying ht,run_underlying he,markStringish,Sem.run_bind,hs]
 have hfr:(w.freeze ⟨g,cur.size,none⟩ 1).heap[g]?=some (.cells cur e (if fz.1 == fz.2 then (cur.size,cur.size+1) else (min fz.1 cur.size,max fz.2 (cur.size+1)))):=by
  simp only [World.freeze,Nat.succ_ne_zero,if_false,Array.getElem?_modify,if_true,hh]
  rfl
 have hfz':FzOk (if fz.1 == fz.2 then (cur.size,cur.size+1) else (min fz.1 cur.size,max fz.2 (cur.size+1))) cur.size:=by
  split
  ·exact .inr (Nat.le_refl _)
  ·rename_i hne
   rcases hfz with rfl | hfz
   ·exact absurd rfl hne
   ·exact .inr (by simp only;omega)
 have step:∀ F1:Nat→Prop,F1 g→Step w (w.freeze ⟨g,cur.size,none⟩ 1) F1:=fun F1 h1=>by
  refine ⟨rfl,rfl,rfl,(by rw [S.freeze_drawn];exact Nat.le_refl _),by simp [World.freeze],fun b _ hb=>?_⟩
  have:g≠b:=fun e=>hb (e ▸ h1)
  simp [World.freeze,Array.getElem?_modify,this]
 obtain ⟨F',hi',hk⟩:=hinv.turn (w':=w.freeze ⟨g,cur.size,none⟩ 1) (r':=.own e (cI .u8) v xs) hj fun G1 hown' hz1=>by
  obtain ⟨cs,⟨hl,hor⟩,hb,hrows⟩ | ⟨rfl,A,rfl⟩:=hown'
  case inr=>simp at hn
  rcases hor with ⟨hv',hn'⟩ | ⟨g',cap',cur',hv',hg',⟨fz2,hh2,hfz2⟩,hcap',hm',hcs',htk⟩
  ·omega
  ·have e5:=hv'.symm.trans hv
   simp at e5
   obtain ⟨rfl,rfl⟩:=e5
   rw [hh] at hh2;cases hh2
   have hG:G1 g':=hb g' (by rw [hv'];rfl)
   have st:=step G1 hG
   exact ⟨G1,st,.inl ⟨cs,⟨hl,.inr ⟨g',cap',cur,hv',hg',⟨_,hfr,hfz'⟩,hcap',hm',hcs',htk⟩⟩,hb,hrows.st (fun _ x=>x) fun b hz=>st.keep b (hz1 b hz).1 (hz1 b hz).2⟩,fun _ x=>.inl x⟩
 exact ⟨v,_,(),F',Z,by simp only [execOp,ho,e1,hr,Sem.run_bind,Result.andThen_ok,Sem.run_pure],hi',fun _ x=>x,hk,rfl,hsl⟩
def AV.ifc (t:TypeId) (a:AV):AV:=⟨fun Z w v=>∃ u,v = .iface t u∧a.p Z w u,fun hz hk ⟨u,e,h⟩=>⟨u,e,a.st hz hk h⟩⟩
theorem oIfc {t:TypeId} {a:AV}:(AV.ifc t a).One:=fun _ _ _ ⟨_,e,_⟩=>by rw [e];rfl
def cIf {T:Type} (t:TypeId) (g:T→AV):Co T:=⟨fun x=>[.ifc t (g x)],1,by decide,fun _=>rfl,fun _=>⟨oIfc,trivial⟩⟩
def NoIface (P:Program) (t:TypeId):Prop:=∃ u,P.underlying t=some u∧∀ ms,u≠.interface ms
theorem Vb {y:Operand} {a:AV} (ht:NoIface P t) (hy:arg fr y=some a):D P n H (.makeInterface t y) ty fr (.ifc t a) :=
 .of fun o ho hty w Z F ρ _ hf=>by
  obtain ⟨u,h1,h2⟩:=ht
  have hr:(Instr.makeInterface t (ρ y)).run P w = .ok (.iface t (ρ y)) w:=by
   simp only [Instr.makeInterface,Sem.run_bind,run_underlying h1,Result.andThen_ok]
   cases u <;> first | rfl | exact absurd rfl (h2 _)
  exact ⟨.iface t (ρ y),by simp [execOp,ho,hr,Sem.run_bind],_,rfl,hf (by simp [Op.operands]) hy⟩
theorem dTA {y:Operand} {a:AV} {xt:TypeId} (ht:NoIface P t) (hy:arg fr y=some (.ifc t a)):D P n H (.typeAssert y xt t false) ty fr a :=
 .of fun o ho hty w Z F ρ _ hf=>by
  obtain ⟨u,h1,h2⟩:=ht
  obtain ⟨q,e,hq⟩:=hf (by simp [Op.operands]) hy
  have hr:(Instr.typeAssert (.iface t q) xt t false).run P w = .ok q w:=by
   simp only [Instr.typeAssert,Sem.run_bind,run_underlying h1,Result.andThen_ok]
   cases u <;> first | simp [Sem.run_pure] | exact absurd rfl (h2 _)
  exact ⟨q,by simp [execOp,ho,e,hr,Sem.run_bind],hq⟩
theorem sCut {T:Type} {c:Co T} {y b:Operand} {kb:IntKind} {m:Int} {v:Value} {xs:List T} {j:Nat} (ht:P.underlying t=some (.slice e)) (hsz:SizeIs P e c.sz) (hy:arg fr y=some (.sv v)) (hj:H[j]?=some (.own e c v xs)) (hb:arg fr b=some (Ai kb m)) (h1:0≤m) (h2:m≤xs.length) (hdn:Nat.blt d n=true)
  (h:∀ v',SimL P f n ops l k ((d,.sv v')::fr) (H.set j (.own e c v' (xs.take m.toNat))) x X K):SimL P f n ops (⟨some d,.slice t y none (some b) none,ty,pos,aft,none⟩::l) k fr H x X K:=by
 refine Qb (I:=Value) (fun o ho hty w0 F0 Z0 w F Z ρ hinv hf=>?_) hdn h
 obtain ⟨e1,_⟩:=hf (by simp [Op.operands]) hy
 have e3:ρ b=_:=hf (by simp [Op.operands]) hb
 obtain ⟨F1,hown,_⟩:=hinv.res.at hj
 obtain ⟨A,q,hv⟩:=own_sv hown
 have hq:xs.length≤q:=by
  obtain ⟨A',m',e',hm',_⟩:=own_fsl hown
  rw [hv] at e';cases e';exact hm'
 have hr:(Instr.sliceAt t v none (some (.int kb m)) none).run P w = .ok (.slice A m.toNat q) w:=by
  have g1:m≤(q:Int):=by omega
  rw [hv]
  simp [Instr.sliceAt,Instr.slice,Instr.sliceBounds,Instr.sliceBound,run_underlying ht,hsz _,Sem.run_bind,asIntOf,g1,h1]
  intro _
  cases A <;> simp [Addr.add]
 have hl:(xs.take m.toNat).length=m.toNat:=by rw [List.length_take];omega
 obtain ⟨F',hi',hk⟩:=hinv.turn (w':=w) (r':=.own e c (.slice A m.toNat q) (xs.take m.toNat)) hj fun G1 hown' _=>by
  refine ⟨G1,Step.refl _ _,?_,fun _ x=>.inl x⟩
  obtain ⟨cs,⟨hl1,hr⟩,hbk,hrows⟩ | ⟨rfl,B,hB⟩:=hown'
  ·rcases hr with ⟨hv',hn⟩ | ⟨g,cap,cur,hv',hg,hrow,hcap,hmx,hcs,htk⟩
   ·have hx:xs=[]:=List.eq_nil_of_length_eq_zero hn
    subst hx
    have:=hv'.symm.trans hv
    simp at this
    obtain ⟨rfl,rfl⟩:=this
    exact .inr ⟨by simp,none,by simp at h2;congr 1;omega⟩
   ·have:=hv'.symm.trans hv
    simp at this
    obtain ⟨rfl,rfl⟩:=this
    refine .inl ⟨cs.take (m.toNat*c.sz),⟨?_,.inr ⟨g,_,cur,by rw [hl],hg,hrow,by rw [hl];omega,hmx,hcs,?_⟩⟩,fun b hb=>hbk b (by rw [hv'];simpa [Value.ownBlock] using hb),?_⟩
    ·rw [hl,List.length_take,hl1]
     have:m.toNat*c.sz≤xs.length*c.sz:=Nat.mul_le_mul_right _ (by omega)
     omega
    ·rw [hl,← htk,List.take_take]
     have:m.toNat*c.sz≤xs.length*c.sz:=Nat.mul_le_mul_right _ (by omega)
     rw [Nat.min_eq_left this]
    ·intro i z hz
     rw [List.getElem?_take] at hz
     split at hz
     ·rename_i hlt
      obtain ⟨vs,g1,g2⟩:=hrows i z hz
      refine ⟨vs,g1,fun q2 z2 hz2=>?_⟩
      have hq2:q2<c.sz:=by
       have:vs.length=c.sz:=by rw [← g1.length,c.len]
       rcases Nat.lt_or_ge q2 vs.length with h | h
       ·omega
       ·simp [h] at hz2
      have:i*c.sz+c.sz≤m.toNat*c.sz:=by rw [← Nat.succ_mul];exact Nat.mul_le_mul_right _ hlt
      rw [List.getElem?_take,if_pos (by omega)]
      exact g2 q2 z2 hz2
     ·cases hz
  ·have:=hB.symm.trans hv
   simp at this
   obtain ⟨rfl,rfl⟩:=this
   exact .inr ⟨by simp,B,by simp at h2;congr 1;omega⟩
 exact ⟨_,w,.slice A m.toNat q,F',Z,by simp only [execOp,ho,e1,e3,Option.map_none,Option.map_some,hr,Sem.run_bind,Result.andThen_ok,Sem.run_pure],hi',fun _ x=>x,hk,rfl,_,_,_,rfl⟩
theorem Qd {T:Type} {c:Co T} {xs:List T} {y b q:Operand} {kb kq:IntKind} {m m2:Int} (ht:P.underlying t=some (.slice e)) (hsz:SizeIs P e c.sz) (hy:arg fr y=some (.fsl c xs)) (hb:arg fr b=some (Ai kb m)) (hq:arg fr q=some (Ai kq m2)) (h1:0≤m) (h2:m≤m2) (h3:m2≤xs.length):D P n H (.slice t y none (some b) (some q)) ty fr (.fsl c (sl xs 0 m)) :=
 .of fun o ho hty w Z F ρ hH hf=>by
  have hp:=hf (by simp [Op.operands]) hy
  have e2:ρ b=_:=hf (by simp [Op.operands]) hb
  have e3:ρ q=_:=hf (by simp [Op.operands]) hq
  obtain ⟨A,c',e1,hc',hel⟩:=hp
  have g1:m2≤(c':Int):=by omega
  have g2:(0:Int)≤m2:=by omega
  have g3:m≤((m2.toNat:Nat):Int):=by omega
  refine ⟨.slice A m.toNat m2.toNat,?_,A,m2.toNat,?_,by simp [sl];omega,fun i x hx=>?_⟩
  ·have g4:max m2 0=m2:=by omega
   simp [execOp,ho,e1,e2,e3,Instr.sliceAt,Instr.slice,Instr.sliceBounds,Instr.sliceBound,run_underlying ht,hsz _,Sem.run_bind,asIntOf,g1,g2,g3,g4,h1,h2]
   try (intro _;cases A <;> simp [Addr.add])
  ·have:(sl xs 0 m).length=m.toNat:=by simp [sl];omega
   rw [this]
  ·simp only [sl,Int.toNat_zero,List.drop_zero,List.getElem?_take] at hx
   split at hx
   ·exact hel i x hx
   ·cases hx
def restR (H:List Res):List Nat→List Res
 | []=>H
 | j::js=>restR (H.eraseIdx j) js
theorem HAll.part {Z:Nat→Prop} {w:World}:∀ (js:List Nat) {H:List Res} {F:Nat→Prop},HAll H Z w F→∃ F1 F2:Nat→Prop,HAll (S.pickR H js) Z w F1∧HAll (restR H js) Z w F2∧(∀ b,F1 b→F b∧¬ F2 b)∧(∀ b,F2 b→F b):=by
 intro js
 induction js with
 | nil=>intro H F h;exact ⟨fun _=>False,F,trivial,h,fun _ x=>x.elim,fun _ x=>x⟩
 | cons j js ih =>
  intro H F h
  unfold S.pickR restR
  cases hj:H[j]? with
  | none =>
   obtain ⟨F1,F2,_,h2,_,d2⟩:=ih (h.erase j)
   exact ⟨fun _=>False,F2,trivial,h2,fun _ x=>x.elim,d2⟩
  | some r =>
   obtain ⟨G1,G2,g1,g2,e1,e2⟩:=h.take hj
   obtain ⟨F1,F2,h1,h2,d1,d2⟩:=ih g2
   refine ⟨fun b=>G1 b∨F1 b,F2,⟨G1,F1,g1,h1,fun b hb=>⟨.inl hb,fun x=>(e1 b hb).2 (d1 b x).1⟩,fun b hb=>.inr hb⟩,h2,fun b hb=>?_,fun b hb=>e2 b (d2 b hb)⟩
   rcases hb with hb | hb
   ·exact ⟨(e1 b hb).1,fun x=>(e1 b hb).2 (d2 b x)⟩
   ·exact ⟨e2 b (d1 b hb).1,(d1 b hb).2⟩
def Hands (P:Program) (g:FuncId) (avs:List AV) (Hin:List Res) {Q I:Type} (y:Option Q) (A:Q→I→AV) (B:Q→I→List Res):Prop:=∀ r,y=some r→Spec P g avs Hin fun a H=>∃ ι,a=A r ι∧H=B r ι
theorem call_run' {o:Oper} {g:FuncId} {y:Operand} {args:Array Operand} {ts:Array TypeId} {w:World} {ρ:Operand→Value} (hy:ρ y = .func (.func g) #[] #[]) (ho:o.op = .call ⟨.value y,args,ts⟩) (hg:Ent P g):(execOp ρ o).run P w = .ok (.enter g (args.toList.map ρ).toArray) w:=by
 have:=hg (args.map ρ) w
 simp only [execOp,ho,resolve,hy,Deferred.ofValue,invoke,Sem.run_bind,Sem.run_pure,Result.andThen_ok,Array.append_empty,this,Array.empty_append]
 congr 2
 apply Array.ext'
 simp
def GMet (ops:Array Oper) (n:Nat) (fr:Fr) (gd:Option (Nat×Bool)):Prop:=∀ (Z:Nat→Prop) (w:World) (tmps:Array Value),tmps.size=n→FrOk fr Z w tmps→∀ o:Oper,o.guard=gd→Region.wanted o (yielded ops tmps)=true
theorem gmN:GMet ops n fr none:=fun _ _ _ _ _ _ h=>wanted_none h
theorem pd {gd:Option (Nat×Bool)} (hgd:GMet ops n fr gd) {g:FuncId} {y:Operand} {args:Array Operand} {ts:Array TypeId} {avs:List AV} {Hin:List Res} {Q I:Type} {z:Option Q} {A:Q→I→AV} {B:Q→I→List Res} {r:Q} (js:List Nat) (hg:Ent P g) (hy:arg fr y=some (.lit (.func (.func g) #[] #[]))) (hp:Hands P g avs Hin z A B) (hz:z=some r) (hpk:S.pickR H js=Hin) (ha:ArgsS fr args.toList avs) (hdn:Nat.blt d n=true)
  (h:∀ ι,SimL P f n ops l k ((d,A r ι)::fr) (B r ι++restR H js) x X K):SimL P f n ops (⟨some d,.call ⟨.value y,args,ts⟩,ty,pos,aft,gd⟩::l) k fr H x X K:=by
 intro is hs r' hr w0 F0 Z0 w F Z tmps hn hi hf
 cases is with
 | nil=>simp at hs
 | cons i is =>
  simp only [List.map_cons,List.cons.injEq] at hs
  have hdn':d<n:=by simpa [Nat.blt_eq] using hdn
  have all:∀ {x:Operand} {a:AV},arg fr x=some a→a.p Z w ((⟨tmps,[]⟩:Act).eval x):=by
   intro x a hx
   cases x with
   | tmp t=>exact hf t a hx
   | const v=>simp [arg] at hx;subst hx;rfl
   | func g=>simp [arg] at hx;subst hx;rfl
   | global g=>simp [arg] at hx;subst hx;rfl
  have hargs:=argsS_ok (ρ:=(⟨tmps,[]⟩:Act).eval) ha fun {x a} _ hx=>all hx
  obtain ⟨F1,F2,h1,h2,d1,d2⟩:=hi.res.part js
  have hin:Inv w w F1 Z F1 Z Hin:=⟨Base.refl _ _,fun _ x=>x,fun b hb=>⟨(hi.zin b hb).1,.inl hb⟩,fun b hb=>⟨(hi.fin b (d1 b hb).1).1,.inl hb,(hi.fin b (d1 b hb).1).2.2⟩,hpk ▸ h1⟩
  refine .enter hs.1 (hgd Z w tmps hn hf _ rfl) (call_run' (all hy) rfl hg) (hp r hz w F1 Z _ hargs hin) ?_
  rintro e w'' ⟨v,rfl,F',Z',av,H',⟨ι,rfl,rfl⟩,hinv,hv⟩
  refine ⟨v,rfl,?_⟩
  have s:Step w w'' F1:=⟨hinv.base.os,hinv.base.tape,hinv.base.output,hinv.base.drawn,hinv.base.size,fun b hb hn=>hinv.base.keep b hb hn⟩
  have hk:Keep Z w w'':=hi.keepZ s fun b hb=>(d1 b hb).1
  have hzF:∀ b,Z' b→F2 b→False:=fun b hz hF=>by
   rcases (hinv.zin b hz).2 with y | y | y
   ·exact (hi.fin b (d2 b hF)).2.2 y
   ·exact (d1 b y).2 hF
   ·have:=(hi.fin b (d2 b hF)).1;omega
  refine h ι is hs.2 r' hr w0 F0 Z0 w'' (fun b=>F' b∨F2 b) Z' _ (by simpa [putT] using hn) ?_ ((hf.st hinv.z0 hk).put (by omega) hv)
  refine hi.step s (fun b hb=>(d1 b hb).1) hinv.z0 (fun b hb=>?_) (fun b hb=>?_) (hinv.res.append (h2.st hinv.z0 fun b hb=>s.keep b (hb.elim (fun x=>(hi.zin b x).1) (fun x=>(hi.fin b (d2 b x)).1)) fun hF=>?_) fun b hb hF=>?_)
  ·have:=hinv.zin b hb
   rcases this.2 with y | y | y
   ·exact .inl y
   ·exact .inr (.inl (d1 b y).1)
   ·exact .inr (.inr ⟨y,this.1⟩)
  ·rcases hb with hb | hb
   ·have:=hinv.fin b hb
    exact ⟨this.2.1.elim (fun z=>.inl (d1 b z).1) fun z=>.inr ⟨z,this.1⟩,this.2.2⟩
   ·exact ⟨.inl (d2 b hb),fun hz=>hzF b hz hb⟩
  ·rcases hb with x | x
   ·exact (hi.fin b (d1 b hF).1).2.2 x
   ·exact (d1 b hF).2 x
  ·have:=hinv.fin b hb
   rcases this.2.1 with y | y
   ·exact (d1 b y).2 hF
   ·have:=(hi.fin b (d2 b hF)).1;omega
theorem J2 {g:FuncId} {y:Operand} {args:Array Operand} {ts:Array TypeId} {avs:List AV} {Hin:List Res} {Q I:Type} {z:Option Q} {A:Q→I→AV} {B:Q→I→List Res} {r:Q} (js:List Nat) (hg:Ent P g) (hy:arg fr y=some (.lit (.func (.func g) #[] #[]))) (hp:Hands P g avs Hin z A B) (hz:z=some r) (hpk:S.pickR H js=Hin) (ha:ArgsS fr args.toList avs) (hdn:Nat.blt d n=true)
  (h:∀ ι,SimL P f n ops l k ((d,A r ι)::fr) (B r ι++restR H js) x X K):SimL P f n ops (⟨some d,.call ⟨.value y,args,ts⟩,ty,pos,aft,none⟩::l) k fr H x X K :=
 pd gmN js hg hy hp hz hpk ha hdn h
theorem obj_of {fn:Func} {c:Code} {avs:List AV} {Hin:List Res} {Q I:Type} {y:Option Q} {A:Q→I→AV} {B:Q→I→List Res} {m:Nat} (hf:P.funcs[f]?=some fn) (hb:fn.body=some c) (hm:fn.ntmps=m) (hn:avs.length≤m)
  (h:Sim P f m [.code c] (frOf 0 avs) Hin y some fun r a H=>∃ ι,a=A r ι∧H=B r ι):Hands P f avs Hin y A B:=by
 subst hm
 exact spec_of hf hb hn h
theorem sPk {todo:List Item} {H':List Res} (js:List Nat) (hH:S.pickR H js=H') (h:Sim P f n todo fr H' x X K):Sim P f n todo fr H x X K:=by
 subst hH
 exact fun r hr w0 F0 Z0 w F Z tmps hn hi hf=>h r hr w0 F0 Z0 w F Z tmps hn (hi.less (·.pickR js)) hf
end
end S
namespace S
open Go.RowKit Go.WideMaps Go.MapKept
set_option linter.unusedVariables false
set_option linter.unusedSimpArgs false
set_option linter.unusedSectionVars false
section
variable {κ ν:Type} [DecidableEq κ]
end
section
variable {P:Program} {f:FuncId} {n:Nat} {ops:Array Oper} {l:List Oper} {k:List Item} {fr:Fr} {H:List Res} {ρ R:Type} {x:Option ρ} {X:ρ→Option R} {K:R→AV→List Res→Prop} {ty t kt et:TypeId} {d:Nat} {pos:String} {aft:Array Edge}
variable {κ ν:Type} [DecidableEq κ] {ek:κ→Value} {ev:ν→Value}
theorem Step.setObj (w:World) (b:Nat) (o:Obj) (F1:Nat→Prop) (h:F1 b):Step w { w with heap:=w.heap.setIfInBounds b o } F1 :=
 ⟨rfl,rfl,rfl,Nat.le_refl _,by simp,fun c _ hf=>by
  have:b≠c:=fun e=>hf (e ▸ h)
  simp [this]⟩
end
end S
namespace S
open Go.RowKit
set_option linter.unusedVariables false
set_option linter.unusedSimpArgs false
section
variable {H:List Res} {w0 w:World} {F0 Z0 F Z:Nat→Prop}
theorem Inv.part {j:Nat} {r:Res} {I:Type} {ra rb:I→Res} (hi:Inv w0 w F0 Z0 F Z H) (hj:H[j]?=some r)
  (hs:∀ F1,r.h Z w F1→∃ i,∃ G1 G2:Nat→Prop,(ra i).h Z w G1∧(rb i).h Z w G2∧(∀ b,G1 b→F1 b∧¬ G2 b)∧(∀ b,G2 b→F1 b)):∃ i,Inv w0 w F0 Z0 F Z (ra i::rb i::H.eraseIdx j):=by
 obtain ⟨F1,F2,h1,h2,d1,d2⟩:=hi.res.take hj
 obtain ⟨i,G1,G2,g1,g2,e1,e2⟩:=hs F1 h1
 refine ⟨i,hi.base,hi.z0,hi.zin,hi.fin,G1,fun b=>G2 b∨F2 b,g1,⟨G2,F2,g2,h2,fun b hb=>⟨.inl hb,(d1 b (e2 b hb)).2⟩,fun b hb=>.inr hb⟩,fun b hb=>⟨(d1 b (e1 b hb).1).1,fun x=>x.elim (e1 b hb).2 (d1 b (e1 b hb).1).2⟩,fun b hb=>hb.elim (fun x=>(d1 b (e2 b x)).1) (d2 b)⟩
end
section
variable {P:Program} {f:FuncId} {n:Nat} {ops:Array Oper} {l:List Oper} {k:List Item} {fr:Fr} {H:List Res} {ρ R:Type} {x:Option ρ} {X:ρ→Option R} {K:R→AV→List Res→Prop} {ty t t' e t0:TypeId} {d:Nat} {pos:String} {aft:Array Edge}
end
structure Tr (T:Type) where
 t:TypeId
 c:Co (T×Value)
 q:Co T
 ch:T→Value→Res
 sz:q.sz=c.sz
 fz:∀ {x:T} {u:Value} {Z F:Nat→Prop} {w:World} {vs:List Value},(ch x u).h Z w F→AllP Z w (c.e (x,u)) vs→AllP (fun b=>Z b∨F b) w (q.e x) vs
def Res.kids {T:Type} (ch:T→Value→Res) (xs:List T) (us:List Value) (o:Option Nat):Res :=
 ⟨fun Z w F=>∃ Fs:Nat→Nat→Prop,(∀ k x u,xs[k]?=some x→us[k]?=some u→o≠some k→(ch x u).h Z w (Fs k))∧(∀ k b,Fs k b→F b)∧∀ k k' b,Fs k b→Fs k' b→k=k',
  fun hz hk ⟨Fs,h1,h2,h3⟩=>⟨Fs,fun k x u hx hu ho=>(ch x u).st hz (fun b hb=>hk b (hb.imp id (h2 k b))) (h1 k x u hx hu ho),h2,h3⟩⟩
def holed (o:Option (Int×Value)):Option Nat:=o.map fun p=>p.1.toNat
def Res.tro {T:Type} (D:Tr T) (v:Value) (xs:List T) (o:Option (Int×Value)):Res :=
 ⟨fun Z w F=>∃ us:List Value,∃ F1 F2:Nat→Prop,us.length=xs.length∧(∀ (i:Int) (u:Value),o=some (i,u)→us[i.toNat]?=some u)∧(Res.own D.t D.c v (xs.zip us)).h Z w F1∧(Res.kids D.ch xs us (holed o)).h Z w F2∧(∀ b,F1 b→F b∧¬ F2 b)∧∀ b,F2 b→F b,
  fun hz hk ⟨us,F1,F2,h1,h2,h3,h4,d1,d2⟩=>⟨us,F1,F2,h1,h2,Res.st _ hz (fun b hb=>hk b (hb.imp id fun x=>(d1 b x).1)) h3,Res.st _ hz (fun b hb=>hk b (hb.imp id (d2 b))) h4,d1,d2⟩⟩
theorem zip_len {T:Type} {xs:List T} {us:List Value} (hl:us.length=xs.length):(xs.zip us).length=xs.length:=by simp [hl]
theorem tro_fsl {T:Type} {D:Tr T} {v:Value} {xs:List T} {Z F:Nat→Prop} {w:World} (h:(Res.tro D v xs none).h Z w F):(AV.fsl D.q xs).p (fun b=>Z b∨F b) w v:=by
 obtain ⟨us,F1,F2,hl,_,h3,⟨Fs,k1,k2,k3⟩,d1,d2⟩:=h
 obtain ⟨A,m,e1,hc,hel⟩:=own_fsl h3
 rw [zip_len hl] at e1 hc
 refine ⟨A,m,e1,hc,fun i x hx=>?_⟩
 have hi:i<xs.length:=by
  rcases Nat.lt_or_ge i xs.length with h | h
  ·exact h
  ·simp [h] at hx
 have hu:us[i]?=some (us[i]'(by omega)):=List.getElem?_eq_getElem (by omega)
 obtain ⟨a,ea,hb,vs,g1,g2⟩:=hel i (x,us[i]'(by omega)) (by simp [List.getElem?_zip_eq_some,hx,hu])
 refine ⟨a,ea,hb.imp id fun y=>(d1 _ y).1,vs,?_,by rw [D.sz];exact g2⟩
 have hk:=(D.ch x (us[i]'(by omega))).st (Z':=fun b=>Z b∨F1 b) (fun _ y=>.inl y) (fun _ _=>rfl) (k1 i x _ hx hu (by simp [holed]))
 exact (D.fz hk g1).st (fun b hb=>by rcases hb with (y | y) | y;exact .inl y;exact .inr (d1 b y).1;exact .inr (d2 b (k2 i b y))) (fun _ _=>rfl)
section
variable {P:Program} {f:FuncId} {n:Nat} {ops:Array Oper} {l:List Oper} {k:List Item} {fr:Fr} {H:List Res} {ρ R:Type} {x:Option ρ} {X:ρ→Option R} {K:R→AV→List Res→Prop} {ty t t' e t0:TypeId} {d:Nat} {pos:String} {aft:Array Edge}
variable {T:Type} {D:Tr T} {v:Value} {xs:List T} {j:Nat} {o:Option (Int×Value)}
inductive LendL (H:List Res):List AV→List AV→Prop
 | n:LendL H [] []
 | k {a:AV} {aS bs:List AV}:LendL H aS bs→LendL H (a::aS) (a::bs)
 | e {T:Type} (c:Co T) {aS bs:List AV}:LendL H aS bs→LendL H (.lit (.slice none 0 0)::aS) (.fsl c []::bs)
 | o {T:Type} {t:TypeId} {c:Co T} {v:Value} {xs:List T} {aS bs:List AV} (j:Nat):H[j]?=some (.own t c v xs)→LendL H aS bs→LendL H (.sv v::aS) (.fsl c xs::bs)
 | z {T:Type} {c:Co T} {v:Value} {xs:List T} {aS bs:List AV} (j:Nat):H[j]?=some (.fz c v xs)→LendL H aS bs→LendL H (.sv v::aS) (.fsl c xs::bs)
 | t {T:Type} {D:Tr T} {v:Value} {xs:List T} {aS bs:List AV} (j:Nat):H[j]?=some (.tro D v xs none)→LendL H aS bs→LendL H (.sv v::aS) (.fsl D.q xs::bs)
 | x {a b:AV} {aS bs:List AV}:(∀ {Z F:Nat→Prop} {w:World} {u:Value},HAll H Z w F→a.p Z w u→b.p (fun b=>Z b∨F b) w u)→LendL H aS bs→LendL H (a::aS) (b::bs)
theorem lend_ok {aS bs:List AV} (h:LendL H aS bs) {Z F:Nat→Prop} {w:World} (hH:HAll H Z w F):∀ {vs:List Value},AllP Z w aS vs→AllP (fun b=>Z b∨F b) w bs vs:=by
 have hzz:∀ b,Z b→Z b∨F b:=fun _ x=>.inl x
 induction h with
 | n=>intro vs h;cases h;exact .nil
 | k _ ih=>intro vs h;cases h with | cons h1 h2=>exact .cons (AV.st _ hzz (Keep.refl _ _) h1) (ih h2)
 | e c _ ih=>intro vs h;cases h with | cons h1 h2=>exact .cons (by rw [show _=_ from h1];exact nil_fsl c _ _) (ih h2)
 | o j hj _ ih =>
  intro vs h;cases h with | cons h1 h2 =>
  obtain ⟨F1,g1,hF⟩:=hH.at hj
  exact .cons (by rw [h1.1];exact AV.st _ (fun b hb=>hb.imp id (hF b)) (Keep.refl _ _) (own_fsl g1)) (ih h2)
 | z j hj _ ih =>
  intro vs h;cases h with | cons h1 h2 =>
  obtain ⟨F1,g1,hF⟩:=hH.at hj
  exact .cons (by rw [h1.1];exact AV.st _ hzz (Keep.refl _ _) g1) (ih h2)
 | t j hj _ ih =>
  intro vs h;cases h with | cons h1 h2 =>
  obtain ⟨F1,g1,hF⟩:=hH.at hj
  exact .cons (by rw [h1.1];exact AV.st _ (fun b hb=>hb.imp id (hF b)) (Keep.refl _ _) (tro_fsl g1)) (ih h2)
 | x hab _ ih=>intro vs h;cases h with | cons h1 h2=>exact .cons (hab hH h1) (ih h2)
theorem lendA {aS bs:List AV} (h:LendL H aS bs) {Z F:Nat→Prop} {w:World} {u:Value} (hH:HAll H Z w F) (hp:(AV.agg aS).p Z w u):(AV.agg bs).p (fun b=>Z b∨F b) w u:=by
 obtain ⟨vs,e,h1⟩:=hp
 exact ⟨vs,e,lend_ok h hH h1⟩
end
end S
namespace S
open Go.RowKit
set_option linter.unusedVariables false
set_option linter.unusedSimpArgs false
set_option linter.unusedSectionVars false
variable {H:List Res}
theorem lendB {b:Nat} {cs bs:List AV} (j:Nat) (hj:H[j]?=some (.box b cs)) (h:LendL H cs bs) {Z F:Nat→Prop} {w:World} {u:Value} (hH:HAll H Z w F) (hp:(AV.lit (.pointer (some ⟨b,0,none⟩))).p Z w u):(AV.fptr bs).p (fun b=>Z b∨F b) w u:=by
 obtain ⟨F1,⟨hb,vs,t',h1,h2⟩,hF⟩:=hH.at hj
 rw [show u=_ from hp]
 exact ⟨_,rfl,.inr (hF _ hb),vs,lend_ok h hH h2,fun i u hu=>by rw [Addr.add_lit,cell_of_row _ _ _ _ _ _ h1];simpa using hu⟩
section
variable {P:Program} {n:Nat} {ty t t' e:TypeId} {fr:Fr}
end
section
variable {P:Program} {f:FuncId} {n:Nat} {ops:Array Oper} {l:List Oper} {k:List Item} {fr:Fr} {ρ R:Type} {x:Option ρ} {X:ρ→Option R} {K:R→AV→List Res→Prop} {ty t e:TypeId} {d:Nat} {pos:String} {aft:Array Edge} {T:Type} {c:Co T}
end
end S
namespace S
open Go.RowKit
set_option linter.unusedVariables false
set_option linter.unusedSimpArgs false
set_option linter.unusedSectionVars false
structure Tg (T:Type) where
 G:Type
 t:TypeId
 c:Co (T×G)
 q:Co T
 ch:T→G→List Res
 sz:q.sz=c.sz
 fz:∀ {x:T} {u:G} {Z F:Nat→Prop} {w:World} {vs:List Value},HAll (ch x u) Z w F→AllP Z w (c.e (x,u)) vs→AllP (fun b=>Z b∨F b) w (q.e x) vs
section
variable {P:Program} {f:FuncId} {n:Nat} {ops:Array Oper} {l:List Oper} {k:List Item} {fr:Fr} {H:List Res} {ρ R:Type} {x:Option ρ} {X:ρ→Option R} {K:R→AV→List Res→Prop} {ty t t' e t0:TypeId} {d:Nat} {pos:String} {aft:Array Edge}
variable {T:Type} {D:Tg T} {v:Value} {xs:List T} {us:List D.G} {j:Nat} {o:Option (Int×D.G)}
end
end S
namespace S
open Go.RowKit
set_option linter.unusedVariables false
set_option linter.unusedSimpArgs false
set_option linter.unusedSectionVars false
section
variable {P:Program} {f:FuncId} {n:Nat} {ops:Array Oper} {l:List Oper} {k:List Item} {fr:Fr} {H:List Res} {ρ R:Type} {x:Option ρ} {X:ρ→Option R} {K:R→AV→List Res→Prop} {ty t t' e t0:TypeId} {d:Nat} {pos:String} {aft:Array Edge}
variable {T:Type} {D:Tg T} {v:Value} {xs:List T} {us:List D.G} {j:Nat}
end
theorem Y {α:Sort _} {a:α}:a=a:=rfl
theorem nn {k:Nat}:(0:Int)≤(k:Int):=Int.natCast_nonneg k
section
variable {P:Program} {f:FuncId} {n:Nat} {ops ops0:Array Oper} {l l':List Oper} {k:List Item} {fr fr':Fr} {H:List Res} {ρ R:Type} {x:Option ρ} {X:ρ→Option R} {K:R→AV→List Res→Prop} {ty t t' e t0:TypeId} {d id:Nat} {pos:String} {aft:Array Edge} {b:Code} {y:Operand} {a av:AV} {op:Op} {oj:Oper} {tt bb:Bool} {dj:Nat}
theorem QL.m {l1:List Oper} (hx:arg fr y=some av) (hdn:Nat.blt d n=true) (h:QL P n H ops ((d,av)::fr) l fr' l1):QL P n H ops fr (⟨some d,.move y,ty,pos,aft,none⟩::l) fr' l1:=.c (.r (dMv hx)) rfl hdn h
theorem QL.r {l1:List Oper} (hD:D P n H op ty fr av) (hdn:Nat.blt d n=true) (h:QL P n H ops ((d,av)::fr) l fr' l1):QL P n H ops fr (⟨some d,op,ty,pos,aft,none⟩::l) fr' l1:=.c (.r hD) rfl hdn h
theorem QL.g {l1:List Oper} (j:Nat) (hj:ops[j]?=some oj) (hdj:oj.dst=some dj) (hl:look fr dj=some (Ab tt)) (ht:tt=bb) (hjn:Nat.blt dj n=true) (hD:D P n H op ty fr av) (hdn:Nat.blt d n=true) (h:QL P n H ops ((d,av)::fr) l fr' l1):QL P n H ops fr (⟨some d,op,ty,pos,aft,some (j,bb)⟩::l) fr' l1:=.c (.g hj hdj hl ht hjn hD) rfl hdn h
theorem QL.w {l1:List Oper} (j:Nat) (hj:ops[j]?=some oj) (hdj:oj.dst=some dj) (hl:look fr dj=some (Ab tt)) (ht:tt = !bb) (hjn:Nat.blt dj n=true) (hdn:Nat.blt d n=true) (h:QL P n H ops ((d,.lit undef)::fr) l fr' l1):QL P n H ops fr (⟨some d,op,ty,pos,aft,some (j,bb)⟩::l) fr' l1:=.c (.u hj hdj hl ht hjn) rfl hdn h
theorem sLo {c:Code} {id:Nat} {σ γ:Type} {X':σ→Option ρ} (l:Nat→σ→Option σ) (A:σ→γ→Fr) (B:σ→γ→List Res) {s0:σ} (g0:γ) {m:Nat} (h0:∀ s,l 0 s=none) (js:List Nat) (hs:Sub (A s0 g0) fr) (hH:S.dropAll H js=B s0 g0)
  (hx:∀ s g,Sim P f n k (A s g) (B s g) (X' s) X K)
  (body:∀ m s g,(∀ s' g',Sim P f n (.inLoop c :: .inBlock id::k) (A s' g') (B s' g') (l m s') (thenK X' X) K)→(∀ s' g',Sim P f n k (A s' g') (B s' g') (some s') (thenK X' X) K)→Sim P f n (.code c :: .inLoop c :: .inBlock id::k) (A s g) (B s g) (l (m+1) s) (thenK X' X) K) :
  Sim P f n (.code (.block id (.loop c))::k) fr H ((l m s0).bind X') X K:=G6 l A B A B g0 h0 js hs hH hx body
end
end S
end Go.Proofs.Ytokccimmgilciaa

