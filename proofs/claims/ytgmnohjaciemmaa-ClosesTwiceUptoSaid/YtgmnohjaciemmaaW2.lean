import Derived.Lib.AppendStr
import Derived.Laws.IdiomStrings
import Derived.Laws.BytesArg
import Derived.MapKept
import Derived.DeepKeys4
import Derived.StringKeys
import Derived.Test.YtgmnohjaciemmaaW1
namespace Go.Proofs.Ytgmnohjaciemmaa
namespace S
open Go.RowKit
set_option linter.unusedVariables false
set_option linter.unusedSimpArgs false
def lnt {T:Type} (p:List T×Int):List T:=p.1.take p.2.toNat
section
variable {P:Program} {f:FuncId} {n:Nat} {ops:Array Oper} {l:List Oper} {k:List Item} {fr:Fr} {H:List Res} {ρ R:Type} {x:Option ρ} {X:ρ→Option R} {K:R→AV→List Res→Prop} {t ty e:TypeId} {T:Type} {c:Co T}
theorem agg_imp {Z:Nat→Prop} {w:World} {az:List AV} {v:Value} {i:Nat} {a b:AV} (h:(AV.agg az).p Z w v) (hi:az[i]?=some a) (hab:∀ u,a.p Z w u→b.p Z w u):(AV.agg (az.set i b)).p Z w v:=by
 obtain ⟨vs,e,h⟩:=h
 exact ⟨vs,e,h.imp hi hab⟩
theorem wd {todo:List Item} (u i:Nat) (c:Co T) {az:List AV} (hu:look fr u=some (.agg az)) (hi:az[i]?=some (.lit (.slice none 0 0))) (h:Sim P f n todo ((u,.agg (az.set i (.fsl c [])))::fr) H x X K):Sim P f n todo fr H x X K:=by
 intro r hr w0 F0 Z0 w F Z tmps hn hinv hf
 refine h r hr w0 F0 Z0 w F Z tmps hn hinv fun t a ht=>?_
 simp only [look] at ht
 by_cases e:u=t
 ·subst e;simp at ht;subst ht
  exact agg_imp (hf u _ hu) hi fun q hq=>by rw [show q=_ from hq];exact ⟨none,0,rfl,Nat.le_refl _,fun i x hx=>by simp at hx⟩
 ·have:(u == t)=false:=by simpa using e
  rw [this] at ht;exact hf t a (by simpa using ht)
theorem Qc (u i:Nat) (c:Co T) {az:List AV} (hu:look fr u=some (.agg az)) (hi:az[i]?=some (.lit (.slice none 0 0))) (h:SimL P f n ops l k ((u,.agg (az.set i (.fsl c [])))::fr) H x X K):SimL P f n ops l k fr H x X K:=fun is hs=>wd u i c hu hi (h is hs)
end
end S
namespace S
open Go.RowKit
set_option linter.unusedVariables false
set_option linter.unusedSimpArgs false
theorem filter_less (S:List Nat) (i:Nat) (hS:i ∉ S):∀ l:List Nat,i ∈ l→(l.filter fun j=>!(i::S).elem j).length<(l.filter fun j=>!S.elem j).length:=by
 intro l
 have le:∀ l:List Nat,(l.filter fun j=>!(i::S).elem j).length≤(l.filter fun j=>!S.elem j).length:=by
  intro l
  induction l with
  | nil=>simp
  | cons a l ih =>
   simp only [List.filter_cons]
   by_cases h:S.elem a=true
   ·have:(i::S).elem a=true:=by simp at h ⊢;exact .inr h
    simp only [h,this,Bool.not_true];exact ih
   ·have h':S.elem a=false:=by simpa using h
    simp only [h',Bool.not_false,if_true]
    split
    ·simp only [List.length_cons];omega
    ·simp only [List.length_cons];omega
 induction l with
 | nil=>intro h;cases h
 | cons a l ih =>
  intro h
  by_cases e:i=a
  ·subst e
   have h1:(i::S).elem i=true:=by simp
   have h2:S.elem i=false:=by simpa using hS
   simp only [List.filter_cons,h1,h2,Bool.not_true,Bool.not_false,if_true,List.length_cons]
   have:=le l
   simp at this ⊢
   omega
  ·have h:=ih (by simpa [e] using h)
   simp only [List.filter_cons]
   by_cases g:S.elem a=true
   ·have:(i::S).elem a=true:=by simp at g ⊢;exact .inr g
    simp only [g,this,Bool.not_true];exact h
   ·have h':S.elem a=false:=by simpa using g
    have h2:(i::S).elem a=false:=by
     simp at g ⊢;exact ⟨fun x=>e x.symm,g⟩
    simp only [h',h2,Bool.not_false,if_true,List.length_cons];omega
theorem lin_map {ops:Array Oper} {S is:List Nat} (h:Lin ops S is):is.map (fun i=>ops[i]?)=(is.filterMap fun i=>ops[i]?).map some:=by
 induction h with
 | nil=>rfl
 | cons ho _ _ _ ih=>simp [ho,ih]
def Each {α:Type} (p:α→Prop):List α→Prop
 | []=>True
 | a::l=>p a∧Each p l
theorem Each.mem {α:Type} {p:α→Prop} {l:List α} (h:Each p l):∀ a ∈ l,p a:=by
 induction l with
 | nil=>simp
 | cons b l ih =>
  intro a ha
  rcases List.mem_cons.1 ha with rfl | ha
  ·exact h.1
  ·exact ih h.2 a ha
def pickR (H:List Res):List Nat→List Res
 | []=>[]
 | j::js=>match H[j]? with
  | some r=>r::pickR (H.eraseIdx j) js
  | none=>[]
theorem HAll.pickR {Z:Nat→Prop} {w:World}:∀ (js:List Nat) {H:List Res} {F:Nat→Prop},HAll H Z w F→HAll (S.pickR H js) Z w F:=by
 intro js
 induction js with
 | nil=>intros;trivial
 | cons j js ih =>
  intro H F h
  unfold S.pickR
  cases hj:H[j]? with
  | none=>trivial
  | some r =>
   obtain ⟨F1,F2,h1,h2,d1,d2⟩:=h.take hj
   exact ⟨F1,F2,h1,ih h2,d1,d2⟩
section
variable {P:Program} {f:FuncId} {n:Nat} {ops:Array Oper} {l:List Oper} {k:List Item} {fr:Fr} {H:List Res} {ρ R:Type} {x:Option ρ} {X:ρ→Option R} {K:R→AV→List Res→Prop}
theorem m5 {fr':Fr} {H':List Res} (h:Sim P f n k fr' H' x X K) (js:List Nat) (hs:Sub fr' fr) (hH:S.pickR H js=H'):Sim P f n k fr H x X K:=by
 subst hH
 exact fun r hr w0 F0 Z0 w F Z tmps hn hi hf=>h r hr w0 F0 Z0 w F Z tmps hn (hi.less (·.pickR js)) (fun t a ht=>hf t a (hs.look ht))
theorem Pa {T:Type} {c:Co T} {todo:List Item} (j i:Nat) (e:TypeId) {b:Nat} {az:List AV} (hj:H[j]?=some (.box b az)) (hu:az[i]?=some (.lit (.slice none 0 0))) (h:∀ v,Sim P f n todo fr (.own e c v []::H.set j (.box b (az.set i (.sv v)))) x X K):Sim P f n todo fr H x X K:=by
 intro r hr w0 F0 Z0 w F Z tmps hn hi hf
 obtain ⟨F',hi',_⟩:=hi.turn (w':=w) (r':=.box b (az.set i (.sv (.slice none 0 0)))) hj fun G1 ⟨hg,vs,t',e1,e2⟩ _=>⟨G1,Step.refl _ _,⟨hg,vs,t',e1,e2.imp hu fun u hu=>⟨hu,_,_,_,rfl⟩⟩,fun _ x=>.inl x⟩
 exact h (.slice none 0 0) r hr w0 F0 Z0 w F' Z tmps hn ⟨hi'.base,hi'.z0,hi'.zin,hi'.fin,fun _=>False,F',.inr ⟨rfl,none,rfl⟩,hi'.res,fun b hb=>hb.elim,fun b hb=>hb⟩ hf
end
end S
namespace S
open Go.RowKit
set_option linter.unusedVariables false
set_option linter.unusedSimpArgs false
theorem look_app (a b:Fr) (t:Nat):look (a++b) t=match look a t with | some v=>some v | none=>look b t:=by
 induction a with
 | nil=>rfl
 | cons p a ih =>
  obtain ⟨u,v⟩:=p
  simp only [List.cons_append,look]
  cases h:u == t <;> simp [ih]
def frL (un:List Nat) (fr:Fr):Fr:=fr.filter fun p=>!un.elem p.1
theorem look_frL (un:List Nat) (fr:Fr) (t:Nat):look (frL un fr) t=if un.elem t=true then none else look fr t:=by
 unfold frL
 induction fr with
 | nil=>simp [look]
 | cons p fr ih =>
  obtain ⟨u,v⟩:=p
  simp only [List.filter_cons]
  by_cases e:u=t
  ·subst e
   cases h:un.elem u
   ·simp [look]
   ·simp only [Bool.not_true,Bool.false_eq_true,if_false]
    rw [ih,if_pos h];simp
  ·have hb:(u == t)=false:=by simpa using e
   split
   ·simp only [look,hb,cond_false,ih]
   ·simp only [look,hb,cond_false,ih]
abbrev Qs:=List (Nat×Nat×AV)
def qat:Qs→Nat→Option (Nat×AV)
 | [],_=>none
 | q::qs,i=>bif q.1 == i then some q.2 else qat qs i
theorem qat_mem {qs:Qs} {i:Nat} {p:Nat×AV} (h:qat qs i=some p):(i,p) ∈ qs:=by
 induction qs with
 | nil=>simp [qat] at h
 | cons q qs ih =>
  simp only [qat] at h
  cases e:q.1 == i
  ·rw [e] at h;exact List.mem_cons_of_mem _ (ih h)
  ·rw [e] at h
   simp at h e
   subst h e
   exact List.mem_cons_self ..
def Avl (qs:Qs) (S:List Nat) (t:Nat):Prop:=∀ q ∈ qs,q.2.1=t→q.1 ∈ S
def bitsOf (ops:Array Oper) (i:Nat):Nat:=(bef [] ops.toList).getD i 0
theorem bits_in {ops:Array Oper} (hb:backOk ops=true) {S:List Nat} (hS:Closed ops S) {i j:Nat} {o:Oper} (ho:ops[i]?=some o) (he:∀ e ∈ edgesOn o,e ∈ S) (hj:(bitsOf ops i).testBit j=true):j ∈ S:=by
 have hi:i<ops.size:=by
  rcases Nat.lt_or_ge i ops.size with h | h
  ·exact h
  ·simp [h] at ho
 exact bef_ok ops hb ops.toList [] (fun k o hk=>by simpa using hk) (fun i o hi=>by simp at hi) i o (by simpa using hi) ho S hS he j hj
def reads (ops:Array Oper) (o:Oper):List Nat:=opTmps o.op++match o.guard with
 | some (j,_)=>((ops[j]?).bind (·.dst)).toList
 | none=>[]
def keyOf (o:Oper):Option Nat×List Nat:=(o.dst,opTmps o.op)
def mOk (ops:Array Oper) (ids:List (Nat×Nat)) (ns:List Nat):Bool :=
 ((List.range ops.size).all fun i=>ns.elem i || ids.any fun q=>q.1 == i) &&
 (ids.all fun q=>!ns.elem q.1 && ids.all fun p=>(p.1 == q.1) == (p.2 == q.2)) &&
 (ids.all fun p=>match ops[p.1]? with
  | some o=>ids.all fun q=>!(reads ops o).elem q.2 || (!(p.1 == q.1) && (bitsOf ops p.1).testBit q.1)
  | none=>false) &&
 ((List.range ops.size).all fun i=>(List.range i).all fun j=>match ops[i]?,ops[j]? with
  | some o,some p=>!(keyOf o == keyOf p)
  | _,_=>true)
def extsE (ops:Array Oper) (bs ns:List Nat):Nat→List Nat→List (List Nat)
 | m,S=>if ns.all (fun i=>S.elem i) then [[]] else match m with
  | 0=>[]
  | m+1=>ns.flatMap fun i=>if !S.elem i && ns.all (fun j=>!(bs.getD i 0).testBit j || S.elem j) then (extsE ops bs ns m (i::S)).map (i::·) else []
theorem Closed.add {ops:Array Oper} {S:List Nat} {i:Nat} {o:Oper} (h:Closed ops S) (ho:ops[i]?=some o) (he:∀ e ∈ edgesOn o,e ∈ S):Closed ops (i::S):=by
 intro j hj p hp e hee
 rcases List.mem_cons.1 hj with rfl | hj
 ·rw [ho] at hp;cases hp
  exact List.mem_cons_of_mem _ (he e hee)
 ·exact List.mem_cons_of_mem _ (h j hj p hp e hee)
theorem lin_extsE {ops:Array Oper} (hb:backOk ops=true) {ns S is:List Nat} (hns:∀ i ∈ ns,i<ops.size) (h:Lin ops S is):Closed ops S→∀ m S',(∀ j ∈ ns,j ∈ S'↔j ∈ S)→(ns.filter fun j=>!S'.elem j).length≤m→(is.filter fun i=>ns.elem i) ∈ extsE ops (bef [] ops.toList) ns m S':=by
 induction h with
 | @nil S h =>
  intro _ m S' hS' _
  unfold extsE
  have hall:ns.all (fun i=>S'.elem i)=true:=by
   rw [List.all_eq_true]
   intro i hi
   simpa using (hS' i hi).2 (h i (hns i hi))
  rw [if_pos hall];simp
 | @cons S is i o ho hn he _ ih =>
  intro hcl m S' hS' hm
  have hcl':=hcl.add ho he
  cases hi:ns.elem i with
  | false =>
   have hi':i ∉ ns:=by simpa using hi
   simp only [List.filter_cons,hi,Bool.false_eq_true,if_false]
   refine ih hcl' m S' (fun j hj=>?_) hm
   rw [hS' j hj,List.mem_cons]
   exact ⟨.inr,fun h=>h.resolve_left fun e=>hi' (e ▸ hj)⟩
  | true =>
   have hi':i ∈ ns:=by simpa using hi
   simp only [List.filter_cons,hi,if_true]
   have hnS':i ∉ S':=fun h=>hn ((hS' i hi').1 h)
   have hlt:=filter_less S' i hnS' ns hi'
   unfold extsE
   rw [if_neg]
   ·cases m with
    | zero=>omega
    | succ m =>
     simp only [List.mem_flatMap]
     refine ⟨i,hi',?_⟩
     have hc:(!S'.elem i && ns.all (fun j=>!((bef [] ops.toList).getD i 0).testBit j || S'.elem j))=true:=by
      rw [Bool.and_eq_true,List.all_eq_true]
      refine ⟨by simpa using hnS',fun j hj=>?_⟩
      cases hbit:((bef [] ops.toList).getD i 0).testBit j with
      | false=>rfl
      | true =>
       have:=bits_in hb hcl ho he (j:=j) hbit
       simpa using (hS' j hj).2 this
     rw [if_pos hc,List.mem_map]
     refine ⟨_,ih hcl' m (i::S') (fun j hj=>?_) (by omega),rfl⟩
     rw [List.mem_cons,List.mem_cons,hS' j hj]
   ·intro h
    rw [List.all_eq_true] at h
    have:=h i hi'
    exact hnS' (by simpa using this)
section
variable {P:Program} {f:FuncId} {n:Nat} {ops:Array Oper} {k:List Item} {fr:Fr} {H:List Res} {ρ R:Type} {x:Option ρ} {X:ρ→Option R} {K:R→AV→List Res→Prop}
def SimM (P:Program) (f:FuncId) (n:Nat) (ops:Array Oper) (k:List Item) (qs:Qs) (fr0:Fr) (ns dn es:List Nat) (fe:Fr) (H:List Res) {ρ R:Type} (x:Option ρ) (X:ρ→Option R) (K:R→AV→List Res→Prop):Prop :=
 ∀ S is,Lin ops S is→Closed ops S→(∀ i ∈ dn,i ∈ S)→(∀ q ∈ qs,q.1 ∉ S→look fe q.2.1=none)→(is.filter fun i=>ns.elem i)=es→∀ r,x.bind X=some r→∀ (w0:World) (F0 Z0:Nat→Prop) (w:World) (F Z:Nat→Prop) (tmps:Array Value),tmps.size=n→Inv w0 w F0 Z0 F Z H →
  (∀ t a,look (fe++(qs.map (·.2)++fr0)) t=some a→Avl qs S t→a.p Z w (tmps.getD t undef))→Run P f (.inRegion ops is::k) tmps w (Done w0 F0 Z0 (K r))
inductive QP (P:Program) (n:Nat) (H:List Res) (ops:Array Oper) (fr:Fr) (qs:Qs):List Nat→Prop
 | n:QP P n H ops fr qs []
 | c {i d:Nat} {is:List Nat} {o:Oper} {av:AV}:ops[i]?=some o→qat qs i=some (d,av)→o.dst=some d→Nat.blt d n=true→QOp P n H ops fr o av→QP P n H ops fr qs is→QP P n H ops fr qs (i::is)
theorem QP.get {qs:Qs} {is:List Nat} (h:QP P n H ops fr qs is):∀ i ∈ is,∃ d o av,ops[i]?=some o∧qat qs i=some (d,av)∧o.dst=some d∧d<n∧QOp P n H ops fr o av:=by
 induction h with
 | n=>intro i hi;cases hi
 | c h1 h2 h3 h4 h5 _ ih =>
  intro i hi
  rcases List.mem_cons.1 hi with rfl | hi
  ·exact ⟨_,_,_,h1,h2,h3,by simpa [Nat.blt_eq] using h4,h5⟩
  ·exact ih i hi
def pendOk (ops:Array Oper) (ids:List (Nat×Nat)) (dn pend:List Nat):Bool:=ids.all fun q=>pend.elem q.1 || dn.any fun j=>(bitsOf ops j).testBit q.1
theorem qs_uniq {qs:Qs} {ns:List Nat} (hm:mOk ops (qs.map fun q=>(q.1,q.2.1)) ns=true) {p q:Nat×Nat×AV} (hp:p ∈ qs) (hq:q ∈ qs) (h:p.2.1=q.2.1):p.1=q.1:=by
 simp only [mOk,Bool.and_eq_true] at hm
 have h2:=List.all_eq_true.1 hm.1.1.2 (q.1,q.2.1) (List.mem_map.2 ⟨q,hq,rfl⟩)
 rw [Bool.and_eq_true] at h2
 have h3:=List.all_eq_true.1 h2.2 (p.1,p.2.1) (List.mem_map.2 ⟨p,hp,rfl⟩)
 rw [beq_iff_eq] at h3
 simp only [h,beq_self_eq_true] at h3
 simpa using h3
theorem qs_uniq' {qs:Qs} {ns:List Nat} (hm:mOk ops (qs.map fun q=>(q.1,q.2.1)) ns=true) {p q:Nat×Nat×AV} (hp:p ∈ qs) (hq:q ∈ qs) (h:p.1=q.1):p.2.1=q.2.1:=by
 simp only [mOk,Bool.and_eq_true] at hm
 have h2:=List.all_eq_true.1 hm.1.1.2 (q.1,q.2.1) (List.mem_map.2 ⟨q,hq,rfl⟩)
 rw [Bool.and_eq_true] at h2
 have h3:=List.all_eq_true.1 h2.2 (p.1,p.2.1) (List.mem_map.2 ⟨p,hp,rfl⟩)
 rw [beq_iff_eq] at h3
 simp only [h,beq_self_eq_true] at h3
 simpa using h3
theorem look_qs {qs:Qs} {fr0:Fr} {ns:List Nat} (hm:mOk ops (qs.map fun q=>(q.1,q.2.1)) ns=true) {q:Nat×Nat×AV} (hq:q ∈ qs) {a:AV} (h:look (qs.map (·.2)++fr0) q.2.1=some a):∃ p ∈ qs,p.1=q.1∧p.2=(q.2.1,a):=by
 have key:∀ l:Qs,q ∈ l→(∀ p ∈ l,p ∈ qs)→look (l.map (·.2)++fr0) q.2.1=some a→∃ p ∈ qs,p.1=q.1∧p.2=(q.2.1,a):=by
  intro l
  induction l with
  | nil=>intro h;cases h
  | cons p l ih =>
   intro h1 h2 h3
   obtain ⟨i,d,v⟩:=p
   simp only [List.map_cons,List.cons_append,look] at h3
   by_cases e:d=q.2.1
   ·subst e
    simp at h3
    subst h3
    exact ⟨_,h2 _ (List.mem_cons_self ..),qs_uniq hm (h2 _ (List.mem_cons_self ..)) hq rfl,rfl⟩
   ·have:(d == q.2.1)=false:=by simpa using e
    rw [this] at h3
    refine ih ?_ (fun p hp=>h2 p (List.mem_cons_of_mem _ hp)) (by simpa using h3)
    rcases List.mem_cons.1 h1 with h | h
    ·exact absurd (by rw [h]) e
    ·exact h
 exact key qs hq (fun p hp=>hp) h
theorem mQ {qs:Qs} {fr0 fe:Fr} {ns dn es:List Nat} (pend:List Nat) (hb:backOk ops=true) (hm:mOk ops (qs.map fun q=>(q.1,q.2.1)) ns=true) (hq:QP P n H ops (fe++(qs.map (·.2)++fr0)) qs pend) (hp:pendOk ops (qs.map fun q=>(q.1,q.2.1)) dn pend=true)
  (h:∀ S is,Lin ops S is→(∀ i is',is=i::is'→ns.elem i=true)→Closed ops S→(∀ i ∈ dn,i ∈ S)→(∀ q ∈ qs,q.1 ∉ S→look fe q.2.1=none)→(is.filter fun i=>ns.elem i)=es→∀ r,x.bind X=some r→∀ (w0:World) (F0 Z0:Nat→Prop) (w:World) (F Z:Nat→Prop) (tmps:Array Value),tmps.size=n→Inv w0 w F0 Z0 F Z H →
   (∀ t a,look (fe++(qs.map (·.2)++fr0)) t=some a→Avl qs S t→a.p Z w (tmps.getD t undef))→Run P f (.inRegion ops is::k) tmps w (Done w0 F0 Z0 (K r))):SimM P f n ops k qs fr0 ns dn es fe H x X K:=by
 intro S is hl
 have hm0:=hm
 simp only [mOk,Bool.and_eq_true] at hm0
 induction hl with
 | @nil S hS=>exact h S [] (.nil hS) (by simp)
 | @cons S is i o ho hn he hl ih =>
  cases hi:ns.elem i with
  | true=>exact h S (i::is) (.cons ho hn he hl) (fun j is' e=>by cases e;exact hi)
  | false =>
   intro hcl hdn hfe hes r hr w0 F0 Z0 w F Z tmps hsz hinv hf
   have hilt:i<ops.size:=by
    rcases Nat.lt_or_ge i ops.size with h | h
    ·exact h
    ·simp [h] at ho
   have hiq:∃ q ∈ qs,q.1=i:=by
    have:=(all_lt _ _).1 hm0.1.1.1 i hilt
    rw [hi,Bool.false_or,List.any_eq_true] at this
    obtain ⟨q,hq1,hq2⟩:=this
    obtain ⟨p,hp1,rfl⟩:=List.mem_map.1 hq1
    exact ⟨p,hp1,by simpa using hq2⟩
   obtain ⟨q0,hq0,hq0i⟩:=hiq
   have hpend:i ∈ pend:=by
    have:=List.all_eq_true.1 hp (q0.1,q0.2.1) (List.mem_map.2 ⟨q0,hq0,rfl⟩)
    rw [Bool.or_eq_true] at this
    rcases this with h | h
    ·simpa [hq0i] using h
    ·exfalso
     rw [List.any_eq_true] at h
     obtain ⟨j,hj1,hj2⟩:=h
     have hjS:=hdn j hj1
     have hjo:∃ p,ops[j]?=some p:=by
      rcases Nat.lt_or_ge j ops.size with hlt | hge
      ·exact ⟨ops[j],by simp [hlt]⟩
      ·exfalso
       have hz:∀ (l:List Oper) (bs:List Nat),(bef bs l).length=bs.length+l.length:=by
        intro l
        induction l with
        | nil=>intro bs;simp [bef]
        | cons o l ih=>intro bs;simp only [bef];rw [ih];simp;omega
       have:(bef [] ops.toList).length≤j:=by rw [hz];simpa using hge
       simp only [bitsOf,List.getD_eq_getElem?_getD,List.getElem?_eq_none this,Option.getD_none,Nat.zero_testBit] at hj2
       cases hj2
     obtain ⟨p,hpj⟩:=hjo
     have:=bits_in hb hcl hpj (hcl j hjS p hpj) hj2
     simp only [hq0i] at this
     exact hn this
   obtain ⟨d,o',av,ho',hqat,hd,hdn',hop⟩:=hq.get i hpend
   rw [ho] at ho';cases ho'
   have hqm:=qat_mem hqat
   have hslot:∀ t,t ∈ reads ops o→∀ a,look (fe++(qs.map (·.2)++fr0)) t=some a→a.p Z w (tmps.getD t undef):=by
    intro t ht a hla
    refine hf t a hla fun q hqq hqt=>?_
    have h1:=List.all_eq_true.1 hm0.1.2 (i,d) (List.mem_map.2 ⟨_,hqm,rfl⟩)
    simp only [ho] at h1
    have h2:=List.all_eq_true.1 h1 (q.1,q.2.1) (List.mem_map.2 ⟨q,hqq,rfl⟩)
    simp only [hqt,Bool.or_eq_true,Bool.and_eq_true,Bool.not_eq_true'] at h2
    rcases h2 with h2 | ⟨_,h2⟩
    ·exact absurd ht (by simpa using h2)
    ·exact bits_in hb hcl ho he h2
   have hon:FrOn (opTmps o.op) (fe++(qs.map (·.2)++fr0)) Z w tmps:=fun t ht a ha=>hslot t (by unfold reads;simp [ht]) a ha
   have hes':(is.filter fun i=>ns.elem i)=es:=by
    rw [List.filter_cons,hi] at hes
    exact hes
   have next:∀ v w' Z',Inv w0 w' F0 Z0 F Z' H→(∀ b,Z b→Z' b)→Keep Z w w'→av.p Z' w' v→Run P f (.inRegion ops is::k) (tmps.setIfInBounds d v) w' (Done w0 F0 Z0 (K r)):=by
    intro v w' Z' hi' hz hk hv
    refine ih (hcl.add ho he) (fun j hj=>List.mem_cons_of_mem _ (hdn j hj)) (fun q hqq hqn=>hfe q hqq fun hx=>hqn (List.mem_cons_of_mem _ hx)) hes' r hr w0 F0 Z0 w' F Z' _ (by simpa using hsz) hi' fun t a hla hav=>?_
    rw [getD_set _ _ _ _ (by omega)]
    by_cases e:d=t
    ·subst e
     rw [if_pos rfl]
     have hnone:=hfe _ hqm hn
     simp only at hnone
     rw [look_app,hnone] at hla
     obtain ⟨p,hp1,hp2,hp3⟩:=look_qs hm hqm hla
     have:p=(i,d,av)∨p.1=i:=.inr hp2
     have hq2:=hqat
     have hsame:∀ l:Qs,(∀ u ∈ l,u ∈ qs)→qat l i=some (d,av)→look (l.map (·.2)++fr0) d=some a→a=av:=by
      intro l
      induction l with
      | nil=>intro _ h;simp [qat] at h
      | cons u l ihl =>
       intro hu h1 h2
       obtain ⟨i',d',v'⟩:=u
       simp only [qat] at h1
       simp only [List.map_cons,List.cons_append,look] at h2
       by_cases ei:i'=i
       ·subst ei
        simp at h1
        obtain ⟨rfl,rfl⟩:=h1
        simpa using h2.symm
       ·have eb:(i' == i)=false:=by simpa using ei
        rw [eb] at h1
        have hdd:d'≠d:=fun ed=>ei (qs_uniq hm (hu _ (List.mem_cons_self ..)) hqm ed)
        have ed:(d' == d)=false:=by simpa using hdd
        rw [ed] at h2
        exact ihl (fun u h=>hu u (List.mem_cons_of_mem _ h)) (by simpa using h1) (by simpa using h2)
     rw [hsame qs (fun u h=>h) hqat hla]
     exact hv
    ·rw [if_neg e]
     refine a.st hz hk (hf t a hla fun q hqq hqt=>?_)
     rcases List.mem_cons.1 (hav q hqq hqt) with h | h
     ·exfalso
      apply e
      rw [← hqt]
      exact (qs_uniq' hm hqm hqq h.symm)
     ·exact h
   cases hop with
   | r hD=>exact does_run (d:=d) hd hdn' ho (wanted_none rfl) hsz hinv (hD _ rfl rfl w0 F0 Z0 w F Z tmps hsz hinv hon) next
   | @g op ty dst pos aft av j dj b t oj hj hdj hl' ht hjn hD =>
    have hjn':dj<tmps.size:=by rw [hsz];simpa [Nat.blt_eq] using hjn
    have hy:=yield_of hj hdj hjn' (hslot dj (by simp [reads,hj,hdj]) _ hl')
    exact does_run (d:=d) hd hdn' ho (by simp [Region.wanted,hy,ht]) hsz hinv (hD _ rfl rfl w0 F0 Z0 w F Z tmps hsz hinv hon) next
   | @u op ty dst pos aft j dj b t oj hj hdj hl' ht hjn =>
    have hjn':dj<tmps.size:=by rw [hsz];simpa [Nat.blt_eq] using hjn
    have hy:=yield_of hj hdj hjn' (hslot dj (by simp [reads,hj,hdj]) _ hl')
    refine .unwanted ho (by subst ht;cases b <;> simp [Region.wanted,hy]) ?_
    rw [show (⟨dst,op,ty,pos,aft,some (j,b)⟩:Oper).dst=some d from hd]
    exact next undef w Z hinv (fun _ x=>x) (Keep.refl _ _) rfl
   | @v op ty dst pos aft j dj b oj hj hdj hl' hjn =>
    have hjn':dj<tmps.size:=by rw [hsz];simpa [Nat.blt_eq] using hjn
    have hy:=yield_none hj hdj hjn' (hslot dj (by simp [reads,hj,hdj]) _ hl')
    refine .unwanted ho (by simp [Region.wanted,hy]) ?_
    rw [show (⟨dst,op,ty,pos,aft,some (j,b)⟩:Oper).dst=some d from hd]
    exact next undef w Z hinv (fun _ x=>x) (Keep.refl _ _) rfl
inductive Ext (ts:List Nat):Fr→Fr→Prop
 | z {B:Fr}:Ext ts B B
 | s {t:Nat} {a:AV} {F B:Fr}:ts.elem t=true→Ext ts F B→Ext ts ((t,a)::F) B
theorem Ext.look {ts:List Nat} {F B:Fr} (h:Ext ts F B) {t:Nat} (ht:ts.elem t=false):look F t=look B t:=by
 induction h with
 | z=>rfl
 | @s u a F B hu _ ih =>
  have:(u == t)=false:=by
   cases e:u == t with
   | false=>rfl
   | true =>
        have:u=t:=by simpa using e
        subst this;rw [hu] at ht;cases ht
  simp only [S.look,this,cond_false]
  exact ih
theorem look_slots {fe:Fr} {t:Nat}:look fe t=none↔(fe.map (·.1)).elem t=false:=by
 induction fe with
 | nil=>simp [look]
 | cons p fe ih =>
  obtain ⟨u,a⟩:=p
  by_cases e:u=t
  ·subst e;simp [look]
  ·have h1:(u == t)=false:=by simpa using e
   have h2:(t == u)=false:=by simpa using fun h=>e (Eq.symm h)
   simp only [look,h1,cond_false,ih,List.map_cons,List.elem_cons,h2]
def unOk (ops:Array Oper) (ids:List (Nat×Nat)) (fs dn:List Nat) (e:Nat) (un:List Nat):Bool :=
 (ids.all fun q=>(bitsOf ops e).testBit q.1 || (dn.any fun j=>(bitsOf ops j).testBit q.1) || un.elem q.2) && (un.all fun t=>ids.any fun q=>q.2 == t) && fs.all fun t=>!un.elem t
def feOk (ops:Array Oper) (un dn fs fs':List Nat):Bool :=
 (fs'.all fun t=>!un.elem t) && (dn.all fun j=>match (ops[j]?).bind (·.dst) with
  | some t=>fs'.elem t
  | none=>true) && fs.all fun t=>fs'.elem t
theorem look_pass {qs:Qs} {t:Nat} (p:Nat×Nat×AV→Bool) (h:∀ q ∈ qs,q.2.1=t→p q=true):look ((qs.filter p).map (·.2)) t=look (qs.map (·.2)) t:=by
 induction qs with
 | nil=>rfl
 | cons q qs ih =>
  obtain ⟨i,d,a⟩:=q
  have ih:=ih fun q hq=>h q (List.mem_cons_of_mem _ hq)
  by_cases e:d=t
  ·subst e
   have:=h (i,d,a) (List.mem_cons_self ..) rfl
   simp [List.filter_cons,this,look]
  ·have hb:(d == t)=false:=by simpa using e
   simp only [List.filter_cons,List.map_cons,look,hb,cond_false]
   split
   ·simp only [List.map_cons,look,hb,cond_false];exact ih
   ·exact ih
theorem look_mem {fe:Fr} {t:Nat} {a:AV} (h:look fe t=some a):(t,a) ∈ fe:=by
 induction fe with
 | nil=>simp [look] at h
 | cons p fe ih =>
  obtain ⟨u,b⟩:=p
  simp only [look] at h
  by_cases e:u=t
  ·subst e;simp at h;subst h;exact List.mem_cons_self ..
  ·have hb:(u == t)=false:=by simpa using e
   rw [hb] at h;exact List.mem_cons_of_mem _ (ih h)
theorem same_ops {qs:Qs} {ns:List Nat} (hm:mOk ops (qs.map fun q=>(q.1,q.2.1)) ns=true) {i j:Nat} {o:Oper} (hi:ops[i]?=some o) (hj:ops[j]?=some o):i=j:=by
 simp only [mOk,Bool.and_eq_true] at hm
 have h4:=(all_lt _ _).1 hm.2
 have lt:∀ {i:Nat},ops[i]?=some o→i<ops.size:=by
  intro i hi
  rcases Nat.lt_or_ge i ops.size with h | h
  ·exact h
  ·simp [h] at hi
 rcases Nat.lt_trichotomy i j with h | h | h
 ·have:=(all_lt _ _).1 (h4 j (lt hj)) i h
  simp [hi,hj] at this
 ·exact h
 ·have:=(all_lt _ _).1 (h4 i (lt hi)) j h
  simp [hi,hj] at this
theorem same_list {qs:Qs} {ns:List Nat} (hm:mOk ops (qs.map fun q=>(q.1,q.2.1)) ns=true):∀ {ks is:List Nat} {l:List Oper},ks.map (fun i=>ops[i]?)=l.map some→is.map (fun i=>ops[i]?)=l.map some→ks=is:=by
 intro ks
 induction ks with
 | nil =>
  intro is l h1 h2
  cases l with
  | nil=>simpa using h2.symm
  | cons o l=>simp at h1
 | cons i ks ih =>
  intro is l h1 h2
  cases l with
  | nil=>simp at h1
  | cons o l =>
   cases is with
   | nil=>simp at h2
   | cons j is =>
    simp only [List.map_cons,List.cons.injEq] at h1 h2
    rw [same_ops hm h1.1 h2.1,ih h1.2 h2.2]
theorem mE {qs:Qs} {fr0 fe:Fr} {ns dn es:List Nat} {e:Nat} {o:Oper} (un pend:List Nat) (hb:backOk ops=true) (hm:mOk ops (qs.map fun q=>(q.1,q.2.1)) ns=true) (hp:pendOk ops (qs.map fun q=>(q.1,q.2.1)) dn pend=true) (hun:unOk ops (qs.map fun q=>(q.1,q.2.1)) (fe.map (·.1)) dn e un=true) (ho:ops[e]?=some o) (hns:ns.elem e=true)
  (hq:QP P n H ops (fe++(qs.map (·.2)++fr0)) qs pend)
  (h:∀ (ab:Fr) (l:List Oper),(∀ {F':Fr} {H' H'':List Res} (fe':Fr) (js:List Nat),Sub fe' F'→Ext (fe'.map (·.1)) F' (frL un (fe++(qs.map (·.2)++fr0))++ab)→S.pickR H' js=H''→feOk ops un (e::dn) (fe.map (·.1)) (fe'.map (·.1))=true→SimM P f n ops k qs fr0 ns (e::dn) es fe' H'' x X K→SimL P f n ops l k F' H' x X K) →
   SimL P f n ops (o::l) k (frL un (fe++(qs.map (·.2)++fr0))++ab) H x X K):SimM P f n ops k qs fr0 ns dn (e::es) fe H x X K:=by
 refine mQ pend hb hm hq hp ?_
 intro S is hl hhead hcl hdn hfe hes r hr w0 F0 Z0 w F Z tmps hsz hinv hf
 have hm0:=hm
 simp only [mOk,Bool.and_eq_true] at hm0
 simp only [unOk,Bool.and_eq_true] at hun
 cases hl with
 | nil _=>simp at hes
 | @cons _ is i o' ho' hn he hl =>
  have hi:=hhead i is rfl
  rw [List.filter_cons,hi,if_pos rfl] at hes
  simp only [List.cons.injEq] at hes
  obtain ⟨rfl,hes⟩:=hes
  rw [ho] at ho';cases ho'
  have hlen:∀ (l:List Oper) (bs:List Nat),(bef bs l).length=bs.length+l.length:=by
   intro l
   induction l with
   | nil=>intro bs;simp [bef]
   | cons o l ih=>intro bs;simp only [bef];rw [ih];simp;omega
  have bitsS:∀ j ∈ dn,∀ q,(bitsOf ops j).testBit q=true→q ∈ S:=by
   intro j hj q hq'
   have:∃ p,ops[j]?=some p:=by
    rcases Nat.lt_or_ge j ops.size with hlt | hge
    ·exact ⟨ops[j],by simp [hlt]⟩
    ·exfalso
     have:(bef [] ops.toList).length≤j:=by rw [hlen];simpa using hge
     simp only [bitsOf,List.getD_eq_getElem?_getD,List.getElem?_eq_none this,Option.getD_none,Nat.zero_testBit] at hq'
     cases hq'
   obtain ⟨p,hp⟩:=this
   exact bits_in hb hcl hp (hcl j (hdn j hj) p hp) hq'
  have hav:∀ q ∈ qs,un.elem q.2.1=false→q.1 ∈ S:=by
   intro q hqq hqu
   have:=List.all_eq_true.1 hun.1.1 (q.1,q.2.1) (List.mem_map.2 ⟨q,hqq,rfl⟩)
   simp only [hqu,Bool.or_false,Bool.or_eq_true] at this
   rcases this with h | h
   ·exact bits_in hb hcl ho he h
   ·rw [List.any_eq_true] at h
    obtain ⟨j,hj1,hj2⟩:=h
    exact bitsS j hj1 _ hj2
  have hunq:∀ t,un.elem t=true→∃ q ∈ qs,q.2.1=t:=by
   intro t ht
   have:=List.all_eq_true.1 hun.1.2 t (by simpa using ht)
   rw [List.any_eq_true] at this
   obtain ⟨q,hq1,hq2⟩:=this
   obtain ⟨p,hp1,rfl⟩:=List.mem_map.1 hq1
   exact ⟨p,hp1,by simpa using hq2⟩
  have hqns:∀ q ∈ qs,q.1≠i:=by
   intro q hqq e
   have:=List.all_eq_true.1 hm0.1.1.2 (q.1,q.2.1) (List.mem_map.2 ⟨q,hqq,rfl⟩)
   rw [Bool.and_eq_true] at this
   rw [e,hi] at this
   simp at this
  have hqfr:∀ {t:Nat} {a:AV},(∃ q ∈ qs,q.2.1=t)→look (qs.map (·.2)++fr0) t=some a→look (qs.map (·.2)) t=some a:=by
   rintro t a ⟨q,hqq,rfl⟩ hla
   rw [look_app] at hla
   cases hc:look (qs.map (·.2)) q.2.1 with
   | some b=>rw [hc] at hla;exact hla
   | none =>
    rw [look_slots] at hc
    have:q.2.1 ∉ (qs.map (·.2)).map (·.1):=by simpa using hc
    exact absurd (List.mem_map.2 ⟨q.2,List.mem_map.2 ⟨q,hqq,rfl⟩,rfl⟩) this
  let ab:Fr:=(qs.filter fun q=>S.elem q.1 && un.elem q.2.1).map (·.2)
  have hab:∀ {t:Nat} {a:AV},look ab t=some a→un.elem t=true∧look (qs.map (·.2)) t=some a∧Avl qs S t:=by
   intro t a hla
   have hmem:=look_mem hla
   obtain ⟨q,hq1,hq2⟩:=List.mem_map.1 hmem
   rw [List.mem_filter,Bool.and_eq_true] at hq1
   obtain ⟨hqq,hqs,hqu⟩:=hq1
   rw [hq2] at hqu
   have hall:Avl qs S t:=fun p hp hpt=>by
    have:p.1=q.1:=qs_uniq hm hp hqq (by rw [hpt,hq2])
    rw [this];simpa using hqs
   refine ⟨hqu,?_,hall⟩
   rw [← look_pass (fun q=>S.elem q.1 && un.elem q.2.1) (fun p hp hpt=>by
    rw [Bool.and_eq_true]
    exact ⟨by simpa using hall p hp hpt,by rw [hpt];exact hqu⟩)]
   exact hla
  have hba:∀ {t:Nat} {a:AV},un.elem t=true→look (qs.map (·.2)) t=some a→Avl qs S t→look ab t=some a:=by
   intro t a ht hla hall
   show look ((qs.filter _).map (·.2)) t=_
   rw [look_pass _ (fun p hp hpt=>by
    rw [Bool.and_eq_true]
    exact ⟨by simpa using hall p hp hpt,by rw [hpt];exact ht⟩)]
   exact hla
  refine h ab (is.filterMap fun i=>ops[i]?) ?_ (i::is) (by simp [ho,lin_map hl]) r hr w0 F0 Z0 w F Z tmps hsz hinv ?_
  ·intro F' H' H'' fe' js hsub hext hpk hok hM ks hks
   have hke:=same_list hm hks (lin_map hl)
   subst hke
   simp only [feOk,Bool.and_eq_true] at hok
   intro r2 hr2 w0' F0' Z0' w' F'' Z' tmps' hn' hi' hf'
   refine hM (i::S) ks hl (hcl.add ho he) (fun j hj=>?_) (fun q hqq hqn=>?_) hes r2 hr2 w0' F0' Z0' w' F'' Z' tmps' hn' (hpk ▸ hi'.less (·.pickR js)) ?_
   ·rcases List.mem_cons.1 hj with rfl | hj
    ·exact List.mem_cons_self ..
    ·exact List.mem_cons_of_mem _ (hdn j hj)
   ·rw [look_slots]
    cases hu:un.elem q.2.1 with
    | false=>exact absurd (List.mem_cons_of_mem _ (hav q hqq hu)) hqn
    | true =>
     cases hc:(fe'.map (·.1)).elem q.2.1 with
     | false=>rfl
     | true =>
      have:=List.all_eq_true.1 hok.1.1 q.2.1 (by simpa using hc)
      rw [hu] at this;cases this
   ·intro t a hla hall
    rw [look_app] at hla
    cases hc:look fe' t with
    | some b =>
     rw [hc] at hla
     exact hf' t a (hsub.look (by rw [hc];exact hla))
    | none =>
     rw [hc] at hla
     have hc':=look_slots.1 hc
     refine hf' t a ?_
     rw [hext.look hc',look_app,look_frL]
     cases hu:un.elem t with
     | true =>
      simp only [if_true]
      obtain ⟨q,hqq,hqt⟩:=hunq t hu
      refine hba hu (hqfr ⟨q,hqq,hqt⟩ hla) fun p hp hpt=>?_
      rcases List.mem_cons.1 (hall p hp hpt) with h | h
      ·exact absurd h (hqns p hp)
      ·exact h
     | false =>
      have hfe0:look fe t=none:=by
       rw [look_slots]
       cases hc2:(fe.map (·.1)).elem t with
       | false=>rfl
       | true =>
        have:=List.all_eq_true.1 hok.2 t (by simpa using hc2)
        rw [this] at hc';cases hc'
      simp only [Bool.false_eq_true,if_false,look_app fe,hfe0,hla]
  ·intro t a hla
   rw [look_app,look_frL] at hla
   cases hu:un.elem t with
   | true =>
    rw [hu] at hla
    simp only [if_true] at hla
    obtain ⟨_,h2,h3⟩:=hab hla
    refine hf t a ?_ h3
    have hfe0:look fe t=none:=by
     rw [look_slots]
     cases hc2:(fe.map (·.1)).elem t with
     | false=>rfl
     | true =>
      have:=List.all_eq_true.1 hun.2 t (by simpa using hc2)
      rw [hu] at this;cases this
    rw [look_app,hfe0,look_app,h2]
   | false =>
    rw [hu] at hla
    simp only [Bool.false_eq_true,if_false] at hla
    cases hc:look (fe++(qs.map (·.2)++fr0)) t with
    | some b =>
     rw [hc] at hla
     exact hf t a (by rw [hc];exact hla) fun q hqq hqt=>hav q hqq (by rw [hqt];exact hu)
    | none =>
     rw [hc] at hla
     have:=(hab hla).1
     rw [hu] at this;cases this
theorem mEnd {qs:Qs} {fr0 fe:Fr} {ns dn:List Nat} (pend:List Nat) (hb:backOk ops=true) (hm:mOk ops (qs.map fun q=>(q.1,q.2.1)) ns=true) (hp:pendOk ops (qs.map fun q=>(q.1,q.2.1)) dn pend=true) (hq:QP P n H ops (fe++(qs.map (·.2)++fr0)) qs pend)
  (h:Sim P f n k (fe++(qs.map (·.2)++fr0)) H x X K):SimM P f n ops k qs fr0 ns dn [] fe H x X K:=by
 refine mQ pend hb hm hq hp ?_
 intro S is hl hhead hcl hdn hfe hes r hr w0 F0 Z0 w F Z tmps hsz hinv hf
 have hm0:=hm
 simp only [mOk,Bool.and_eq_true] at hm0
 cases hl with
 | nil hS =>
  refine .regionEnd (h r hr w0 F0 Z0 w F Z tmps hsz hinv fun t a hla=>hf t a hla fun q hqq _=>hS _ ?_)
  have:=List.all_eq_true.1 hm0.1.2 (q.1,q.2.1) (List.mem_map.2 ⟨q,hqq,rfl⟩)
  rcases Nat.lt_or_ge q.1 ops.size with h | h
  ·exact h
  ·simp [h] at this
 | @cons _ is i o' ho' hn he hl =>
  have hi:=hhead i is rfl
  rw [List.filter_cons,hi,if_pos rfl] at hes
  cases hes
theorem qb {id:Nat} (qs:Qs) (ns:List Nat) (L:List (List Nat)) (hmx:P.follows .mixedOrders=true) (hb:backOk ops=true) (hm:mOk ops (qs.map fun q=>(q.1,q.2.1)) ns=true) (hns:ns.all (fun i=>Nat.blt i ops.size)=true) (hL:extsE ops (bef [] ops.toList) ns ns.length []=L)
  (h:Each (fun es=>SimM P f n ops k qs fr ns [] es [] H x X K) L):Sim P f n (.code (.region id ops true)::k) fr H x X K:=by
 intro r hr w0 F0 Z0 w F Z tmps hn hi hf
 refine .regionDraw fun t=>?_
 have hlin:=lin_schedule hmx ops hb t
 have hcl:Closed ops []:=fun i hi=>by cases hi
 have hmem:=lin_extsE hb (ns:=ns) (fun i hi=>by have:=List.all_eq_true.1 hns i hi;simpa [Nat.blt_eq] using this) hlin hcl ns.length [] (fun j _=>by simp) (List.length_filter_le _ _)
 rw [hL] at hmem
 refine h.mem _ hmem [] _ hlin hcl (fun i hi=>by cases hi) (fun _ _ _=>rfl) rfl r hr w0 F0 Z0 _ F Z tmps hn (hi.quiet (Step.drew w _) (fun _ x=>x) (fun _ x=>.inl x)) fun t a hla hav=>?_
 refine AV.st a (w:=w) (w':={ w with drawn:=w.drawn+1 }) (fun _ x=>x) (fun _ _=>rfl) (hf t a ?_)
 rw [List.nil_append,look_app] at hla
 cases hc:look (qs.map (·.2)) t with
 | none=>rw [hc] at hla;exact hla
 | some b =>
  obtain ⟨q,hq1,hq2⟩:=List.mem_map.1 (look_mem hc)
  exact absurd (hav q hq1 (by rw [hq2])) (by simp)
end
end S
namespace S
open Go.RowKit
set_option linter.unusedVariables false
set_option linter.unusedSimpArgs false
def bytesL (s:ByteArray):List Int:=s.data.toList.map fun b=>(b.toNat:Int)
def strL (xs:List Int):ByteArray:=⟨(xs.map fun n=>UInt8.ofNat n.toNat).toArray⟩
section
variable {P:Program} {f:FuncId} {n:Nat} {ops:Array Oper} {l:List Oper} {k:List Item} {fr:Fr} {H:List Res} {ρ R:Type} {x:Option ρ} {X:ρ→Option R} {K:R→AV→List Res→Prop} {ty t t' e u:TypeId} {d:Nat} {pos:String} {aft:Array Edge}
def IsPtr (a:AV):Prop:=∀ Z w v,a.p Z w v→∃ ad,v = .pointer (some ad)
theorem ptLit {a:Addr}:IsPtr (.lit (.pointer (some a))):=fun _ _ _ e=>⟨a,e⟩
theorem ptF {aS:List AV}:IsPtr (.fptr aS):=fun _ _ _ ⟨a,e,_⟩=>⟨a,e⟩
theorem dNc {y:Operand} {a:AV} (hp:IsPtr a) (hy:arg fr y=some a):D P n H (.nilCheck y) ty fr a :=
 .of fun o ho hty w Z F ρ _ hf=>by
  have h:=hf (by simp [Op.operands]) hy
  obtain ⟨ad,e⟩:=hp _ _ _ h
  exact ⟨ρ y,by simp [execOp,ho,e,Sem.run_pure],h⟩
theorem dCBS {y:Operand} {xs:List Int} (ht:P.underlying t=some (.slice e)) (he:P.underlying e=some (.int .u8)) (ht':P.underlying t'=some .string) (hy:arg fr y=some (.fsl (cI .u8) xs)):D P n H (.convert t t' y) ty fr (.lit (.string (strL xs))) :=
 .of fun o ho hty w Z F ρ _ hf=>by
  obtain ⟨A,m,e1,hm,hel⟩:=hf (by simp [Op.operands]) hy
  cases A with
  | none =>
   have:xs=[]:=by
    cases xs with
    | nil=>rfl
    | cons a xs=>obtain ⟨_,h,_⟩:=hel 0 a rfl;cases h
   subst this
   refine ⟨.string (strL []),?_,rfl⟩
   have:=run_convert_bytes_nil (P:=P) w t e ht he 0 m t' ht'
   simp only [execOp,ho,e1,List.length_nil,this,Sem.run_bind,Result.andThen_ok,Sem.run_pure]
   rfl
  | some a =>
   obtain ⟨b,off,sp⟩:=a
   have hl:(loadCells ⟨b,off,sp⟩ xs.length).run P w = .ok (xs.map (Value.int .u8)).toArray w:=by
    have:=run_loadCells_list (P:=P) w ⟨b,off,sp⟩ (xs.map (Value.int .u8)) (fun j v hj=>by
     rw [List.getElem?_map] at hj
     cases hx:xs[j]? with
     | none=>rw [hx] at hj;cases hj
     | some q =>
      rw [hx] at hj
      simp at hj;subst hj
      obtain ⟨a',ha',_,vs,h1,h2⟩:=hel j q hx
      cases ha'
      cases h1 with
      | cons h1 h3 =>
       cases h3
       have:=h2 0 _ rfl
       simp only [cI,Nat.mul_one] at this
       rw [show (⟨b,off,sp⟩:Addr).add j=((⟨b,off,sp⟩:Addr).add j).add 0 by simp [Addr.add],this]
       exact congrArg some h1)
    simpa using this
   refine ⟨.string (strL xs),?_,rfl⟩
   have hr:=run_convert_bytes_string (P:=P) w t t' e (some ⟨b,off,sp⟩) xs.length m ht he ht'
   have hb:=run_bytesToString (P:=P) w ⟨b,off,sp⟩ xs.length m xs hl
   have hs:xs.foldl (fun r n=>r.push (UInt8.ofNat n.toNat)) ByteArray.empty=strL xs:=by
    rw [foldl_push_bytes]
    simp [strL,ByteArray.empty,ByteArray.emptyWithCapacity]
    rfl
   simp only [execOp,ho,e1,hr,hb,hs,Sem.run_bind,Result.andThen_ok,Sem.run_pure]
theorem sCut {T:Type} {c:Co T} {y b:Operand} {kb:IntKind} {m:Int} {v:Value} {xs:List T} {j:Nat} (ht:P.underlying t=some (.slice e)) (hsz:SizeIs P e c.sz) (hy:arg fr y=some (.sv v)) (hj:H[j]?=some (.own e c v xs)) (hb:arg fr b=some (Ai kb m)) (h1:0≤m) (h2:m≤xs.length) (hdn:Nat.blt d n=true)
  (h:∀ v',SimL P f n ops l k ((d,.sv v')::fr) (H.set j (.own e c v' (xs.take m.toNat))) x X K):SimL P f n ops (⟨some d,.slice t y none (some b) none,ty,pos,aft,none⟩::l) k fr H x X K:=by
 refine ba (I:=Value) (fun o ho hty w0 F0 Z0 w F Z ρ hinv hf=>?_) hdn h
 obtain ⟨e1,_⟩:=hf (by simp [Op.operands]) hy
 have e3:ρ b=_:=hf (by simp [Op.operands]) hb
 obtain ⟨F1,hown,_⟩:=hinv.res.at hj
 obtain ⟨A,q,hv⟩:=own_sv hown
 have hq:xs.length≤q:=by
  obtain ⟨A',m',e',hm',_⟩:=own_fsl hown
  rw [hv] at e';cases e';exact hm'
 have hr:(Instr.sliceAt t v none (some (.int kb m)) none).run P w = .ok (.slice A m.toNat q) w:=by
  have g1:m≤(q:Int):=by omega
  rw [hv]
  simp [Instr.sliceAt,Instr.slice,Instr.sliceBounds,Instr.sliceBound,run_underlying ht,hsz _,Sem.run_bind,asIntOf,g1,h1]
  intro _
  cases A <;> simp [Addr.add]
 have hl:(xs.take m.toNat).length=m.toNat:=by rw [List.length_take];omega
 obtain ⟨F',hi',hk⟩:=hinv.turn (w':=w) (r':=.own e c (.slice A m.toNat q) (xs.take m.toNat)) hj fun G1 hown' _=>by
  refine ⟨G1,Step.refl _ _,?_,fun _ x=>.inl x⟩
  obtain ⟨cs,⟨hl1,hr⟩,hbk,hrows⟩ | ⟨rfl,B,hB⟩:=hown'
  ·rcases hr with ⟨hv',hn⟩ | ⟨g,cap,cur,hv',hg,hrow,hcap,hmx,hcs,htk⟩
   ·have hx:xs=[]:=List.eq_nil_of_length_eq_zero hn
    subst hx
    have:=hv'.symm.trans hv
    simp at this
    obtain ⟨rfl,rfl⟩:=this
    exact .inr ⟨by simp,none,by simp at h2;congr 1;omega⟩
   ·have:=hv'.symm.trans hv
    simp at this
    obtain ⟨rfl,rfl⟩:=this
    refine .inl ⟨cs.take (m.toNat*c.sz),⟨?_,.inr ⟨g,_,cur,by rw [hl],hg,hrow,by rw [hl];omega,hmx,hcs,?_⟩⟩,fun b hb=>hbk b (by rw [hv'];simpa [Value.ownBlock] using hb),?_⟩
    ·rw [hl,List.length_take,hl1]
     have:m.toNat*c.sz≤xs.length*c.sz:=Nat.mul_le_mul_right _ (by omega)
     omega
    ·rw [hl,← htk,List.take_take]
     have:m.toNat*c.sz≤xs.length*c.sz:=Nat.mul_le_mul_right _ (by omega)
     rw [Nat.min_eq_left this]
    ·intro i z hz
     rw [List.getElem?_take] at hz
     split at hz
     ·rename_i hlt
      obtain ⟨vs,g1,g2⟩:=hrows i z hz
      refine ⟨vs,g1,fun q2 z2 hz2=>?_⟩
      have hq2:q2<c.sz:=by
       have:vs.length=c.sz:=by rw [← g1.length,c.len]
       rcases Nat.lt_or_ge q2 vs.length with h | h
       ·omega
       ·simp [h] at hz2
      have:i*c.sz+c.sz≤m.toNat*c.sz:=by rw [← Nat.succ_mul];exact Nat.mul_le_mul_right _ hlt
      rw [List.getElem?_take,if_pos (by omega)]
      exact g2 q2 z2 hz2
     ·cases hz
  ·have:=hB.symm.trans hv
   simp at this
   obtain ⟨rfl,rfl⟩:=this
   exact .inr ⟨by simp,B,by simp at h2;congr 1;omega⟩
 exact ⟨_,w,.slice A m.toNat q,F',Z,by simp only [execOp,ho,e1,e3,Option.map_none,Option.map_some,hr,Sem.run_bind,Result.andThen_ok,Sem.run_pure],hi',fun _ x=>x,hk,rfl,_,_,_,rfl⟩
def restR (H:List Res):List Nat→List Res
 | []=>H
 | j::js=>restR (H.eraseIdx j) js
theorem HAll.part {Z:Nat→Prop} {w:World}:∀ (js:List Nat) {H:List Res} {F:Nat→Prop},HAll H Z w F→∃ F1 F2:Nat→Prop,HAll (S.pickR H js) Z w F1∧HAll (restR H js) Z w F2∧(∀ b,F1 b→F b∧¬ F2 b)∧(∀ b,F2 b→F b):=by
 intro js
 induction js with
 | nil=>intro H F h;exact ⟨fun _=>False,F,trivial,h,fun _ x=>x.elim,fun _ x=>x⟩
 | cons j js ih =>
  intro H F h
  unfold S.pickR restR
  cases hj:H[j]? with
  | none =>
   obtain ⟨F1,F2,_,h2,_,d2⟩:=ih (h.erase j)
   exact ⟨fun _=>False,F2,trivial,h2,fun _ x=>x.elim,d2⟩
  | some r =>
   obtain ⟨G1,G2,g1,g2,e1,e2⟩:=h.take hj
   obtain ⟨F1,F2,h1,h2,d1,d2⟩:=ih g2
   refine ⟨fun b=>G1 b∨F1 b,F2,⟨G1,F1,g1,h1,fun b hb=>⟨.inl hb,fun x=>(e1 b hb).2 (d1 b x).1⟩,fun b hb=>.inr hb⟩,h2,fun b hb=>?_,fun b hb=>e2 b (d2 b hb)⟩
   rcases hb with hb | hb
   ·exact ⟨(e1 b hb).1,fun x=>(e1 b hb).2 (d2 b x)⟩
   ·exact ⟨e2 b (d1 b hb).1,(d1 b hb).2⟩
def Hands (P:Program) (g:FuncId) (avs:List AV) (Hin:List Res) {Q I:Type} (y:Option Q) (A:Q→I→AV) (B:Q→I→List Res):Prop:=∀ r,y=some r→Spec P g avs Hin fun a H=>∃ ι,a=A r ι∧H=B r ι
theorem call_run' {o:Oper} {g:FuncId} {y:Operand} {args:Array Operand} {ts:Array TypeId} {w:World} {ρ:Operand→Value} (hy:ρ y = .func (.func g) #[] #[]) (ho:o.op = .call ⟨.value y,args,ts⟩) (hg:Ent P g):(execOp ρ o).run P w = .ok (.enter g (args.toList.map ρ).toArray) w:=by
 have:=hg (args.map ρ) w
 simp only [execOp,ho,resolve,hy,Deferred.ofValue,invoke,Sem.run_bind,Sem.run_pure,Result.andThen_ok,Array.append_empty,this,Array.empty_append]
 congr 2
 apply Array.ext'
 simp
def GMet (ops:Array Oper) (n:Nat) (fr:Fr) (gd:Option (Nat×Bool)):Prop:=∀ (Z:Nat→Prop) (w:World) (tmps:Array Value),tmps.size=n→FrOk fr Z w tmps→∀ o:Oper,o.guard=gd→Region.wanted o (yielded ops tmps)=true
theorem gmN:GMet ops n fr none:=fun _ _ _ _ _ _ h=>wanted_none h
theorem pc {gd:Option (Nat×Bool)} (hgd:GMet ops n fr gd) {g:FuncId} {y:Operand} {args:Array Operand} {ts:Array TypeId} {avs:List AV} {Hin:List Res} {Q I:Type} {z:Option Q} {A:Q→I→AV} {B:Q→I→List Res} {r:Q} (js:List Nat) (hg:Ent P g) (hy:arg fr y=some (.lit (.func (.func g) #[] #[]))) (hp:Hands P g avs Hin z A B) (hz:z=some r) (hpk:S.pickR H js=Hin) (ha:ArgsS fr args.toList avs) (hdn:Nat.blt d n=true)
  (h:∀ ι,SimL P f n ops l k ((d,A r ι)::fr) (B r ι++restR H js) x X K):SimL P f n ops (⟨some d,.call ⟨.value y,args,ts⟩,ty,pos,aft,gd⟩::l) k fr H x X K:=by
 intro is hs r' hr w0 F0 Z0 w F Z tmps hn hi hf
 cases is with
 | nil=>simp at hs
 | cons i is =>
  simp only [List.map_cons,List.cons.injEq] at hs
  have hdn':d<n:=by simpa [Nat.blt_eq] using hdn
  have all:∀ {x:Operand} {a:AV},arg fr x=some a→a.p Z w ((⟨tmps,[]⟩:Act).eval x):=by
   intro x a hx
   cases x with
   | tmp t=>exact hf t a hx
   | const v=>simp [arg] at hx;subst hx;rfl
   | func g=>simp [arg] at hx;subst hx;rfl
   | global g=>simp [arg] at hx;subst hx;rfl
  have hargs:=argsS_ok (ρ:=(⟨tmps,[]⟩:Act).eval) ha fun {x a} _ hx=>all hx
  obtain ⟨F1,F2,h1,h2,d1,d2⟩:=hi.res.part js
  have hin:Inv w w F1 Z F1 Z Hin:=⟨Base.refl _ _,fun _ x=>x,fun b hb=>⟨(hi.zin b hb).1,.inl hb⟩,fun b hb=>⟨(hi.fin b (d1 b hb).1).1,.inl hb,(hi.fin b (d1 b hb).1).2.2⟩,hpk ▸ h1⟩
  refine .enter hs.1 (hgd Z w tmps hn hf _ rfl) (call_run' (all hy) rfl hg) (hp r hz w F1 Z _ hargs hin) ?_
  rintro e w'' ⟨v,rfl,F',Z',av,H',⟨ι,rfl,rfl⟩,hinv,hv⟩
  refine ⟨v,rfl,?_⟩
  have s:Step w w'' F1:=⟨hinv.base.os,hinv.base.tape,hinv.base.output,hinv.base.drawn,hinv.base.size,fun b hb hn=>hinv.base.keep b hb hn⟩
  have hk:Keep Z w w'':=hi.keepZ s fun b hb=>(d1 b hb).1
  have hzF:∀ b,Z' b→F2 b→False:=fun b hz hF=>by
   rcases (hinv.zin b hz).2 with y | y | y
   ·exact (hi.fin b (d2 b hF)).2.2 y
   ·exact (d1 b y).2 hF
   ·have:=(hi.fin b (d2 b hF)).1;omega
  refine h ι is hs.2 r' hr w0 F0 Z0 w'' (fun b=>F' b∨F2 b) Z' _ (by simpa [putT] using hn) ?_ ((hf.st hinv.z0 hk).put (by omega) hv)
  refine hi.step s (fun b hb=>(d1 b hb).1) hinv.z0 (fun b hb=>?_) (fun b hb=>?_) (hinv.res.append (h2.st hinv.z0 fun b hb=>s.keep b (hb.elim (fun x=>(hi.zin b x).1) (fun x=>(hi.fin b (d2 b x)).1)) fun hF=>?_) fun b hb hF=>?_)
  ·have:=hinv.zin b hb
   rcases this.2 with y | y | y
   ·exact .inl y
   ·exact .inr (.inl (d1 b y).1)
   ·exact .inr (.inr ⟨y,this.1⟩)
  ·rcases hb with hb | hb
   ·have:=hinv.fin b hb
    exact ⟨this.2.1.elim (fun z=>.inl (d1 b z).1) fun z=>.inr ⟨z,this.1⟩,this.2.2⟩
   ·exact ⟨.inl (d2 b hb),fun hz=>hzF b hz hb⟩
  ·rcases hb with x | x
   ·exact (hi.fin b (d1 b hF).1).2.2 x
   ·exact (d1 b hF).2 x
  ·have:=hinv.fin b hb
   rcases this.2.1 with y | y
   ·exact (d1 b y).2 hF
   ·have:=(hi.fin b (d2 b hF)).1;omega
theorem va {g:FuncId} {y:Operand} {args:Array Operand} {ts:Array TypeId} {avs:List AV} {Hin:List Res} {Q I:Type} {z:Option Q} {A:Q→I→AV} {B:Q→I→List Res} {r:Q} (js:List Nat) (hg:Ent P g) (hy:arg fr y=some (.lit (.func (.func g) #[] #[]))) (hp:Hands P g avs Hin z A B) (hz:z=some r) (hpk:S.pickR H js=Hin) (ha:ArgsS fr args.toList avs) (hdn:Nat.blt d n=true)
  (h:∀ ι,SimL P f n ops l k ((d,A r ι)::fr) (B r ι++restR H js) x X K):SimL P f n ops (⟨some d,.call ⟨.value y,args,ts⟩,ty,pos,aft,none⟩::l) k fr H x X K :=
 pc gmN js hg hy hp hz hpk ha hdn h
theorem obj_of {fn:Func} {c:Code} {avs:List AV} {Hin:List Res} {Q I:Type} {y:Option Q} {A:Q→I→AV} {B:Q→I→List Res} {m:Nat} (hf:P.funcs[f]?=some fn) (hb:fn.body=some c) (hm:fn.ntmps=m) (hn:avs.length≤m)
  (h:Sim P f m [.code c] (frOf 0 avs) Hin y some fun r a H=>∃ ι,a=A r ι∧H=B r ι):Hands P f avs Hin y A B:=by
 subst hm
 exact spec_of hf hb hn h
theorem sPk {todo:List Item} {H':List Res} (js:List Nat) (hH:S.pickR H js=H') (h:Sim P f n todo fr H' x X K):Sim P f n todo fr H x X K:=by
 subst hH
 exact fun r hr w0 F0 Z0 w F Z tmps hn hi hf=>h r hr w0 F0 Z0 w F Z tmps hn (hi.less (·.pickR js)) hf
end
end S
namespace S
open Go.RowKit Go.WideMaps Go.MapKept
set_option linter.unusedVariables false
set_option linter.unusedSimpArgs false
set_option linter.unusedSectionVars false
structure MK (P:Program) (kt:TypeId) {κ:Type} (ek:κ→Value):Prop where
 inj:∀ a b,ek a=ek b→a=b
 check:∀ (w:World) (em:Bool) (x:κ),(Instr.checkKey em 10000 kt (ek x)).run P w = .ok () w
 find:∀ (w:World) (x:κ) (es:List MapEntry),(∀ e ∈ es,∃ y,e.key=ek y) →
  ((Instr.findKey kt (ek x) es).run P w = .ok none w∧∀ e ∈ es,e.key≠ek x)∨∃ j e,(Instr.findKey kt (ek x) es).run P w = .ok (some (j,e.val)) w∧es[j]?=some e∧e.key=ek x
 stays:∀ (w:World) (x:κ),(Instr.keyThatStays (ek x) (ek x)).run P w = .ok (ek x) w
section
variable {κ ν:Type} [DecidableEq κ]
def mget (es:List (κ×ν)) (k:κ):Option ν:=(es.find? fun p=>decide (p.1=k)).map (·.2)
def mgetD (z:ν) (es:List (κ×ν)) (k:κ):ν:=(mget es k).getD z
def mhas (es:List (κ×ν)) (k:κ):Bool:=(mget es k).isSome
def mput:List (κ×ν)→κ→ν→List (κ×ν)
 | [],k,v=>[(k,v)]
 | p::es,k,v=>if p.1=k then (k,v)::es else p::mput es k v
theorem mget_none {es:List (κ×ν)} {k:κ} (h:∀ p ∈ es,p.1≠k):mget es k=none:=by
 unfold mget
 rw [List.find?_eq_none.2 (fun p hp=>by simpa using h p hp)];rfl
theorem mget_at {es:List (κ×ν)} {k:κ} (hn:es.Pairwise fun p q=>p.1≠q.1) {j:Nat} {p:κ×ν} (hj:es[j]?=some p) (hp:p.1=k):mget es k=some p.2:=by
 unfold mget
 induction es generalizing j with
 | nil=>simp at hj
 | cons q es ih =>
  rw [List.find?_cons]
  cases j with
  | zero=>simp at hj;subst hj;simp [hp]
  | succ j =>
   have hq:q.1≠k:=fun e=>(List.pairwise_cons.1 hn).1 p (List.mem_of_getElem? (by simpa using hj)) (e.trans hp.symm)
   rw [decide_eq_false hq]
   exact ih (List.pairwise_cons.1 hn).2 (by simpa using hj)
theorem mput_new {es:List (κ×ν)} {k:κ} {v:ν} (h:∀ p ∈ es,p.1≠k):mput es k v=es++[(k,v)]:=by
 induction es with
 | nil=>rfl
 | cons p es ih=>rw [mput,if_neg (h p (.head _)),ih fun q hq=>h q (.tail _ hq)];rfl
theorem mput_at {es:List (κ×ν)} {k:κ} {v:ν} (hn:es.Pairwise fun p q=>p.1≠q.1) {j:Nat} {p:κ×ν} (hj:es[j]?=some p) (hp:p.1=k):mput es k v=es.set j (k,v):=by
 induction es generalizing j with
 | nil=>simp at hj
 | cons q es ih =>
  cases j with
  | zero=>simp at hj;subst hj;rw [mput,if_pos hp];rfl
  | succ j =>
   have hq:q.1≠k:=fun e=>(List.pairwise_cons.1 hn).1 p (List.mem_of_getElem? (by simpa using hj)) (e.trans hp.symm)
   rw [mput,if_neg hq,ih (List.pairwise_cons.1 hn).2 (by simpa using hj)];rfl
end
def MapAt {κ ν:Type} (ek:κ→Value) (ev:ν→Value) (w:World) (b:Nat) (es:List (κ×ν)):Prop :=
 ∃ ms clock,w.heap[b]?=some (.map ms clock)∧Stamped ms clock∧ms.toList.map (fun e=>(e.key,e.val))=es.map fun p=>(ek p.1,ev p.2)
def Res.mp {κ ν:Type} (ek:κ→Value) (ev:ν→Value) (b:Nat) (es:List (κ×ν)):Res :=
 ⟨fun Z w F=>F b∧MapAt ek ev w b es,fun hz hk h=>by
  obtain ⟨hb,ms,clock,h1,h2⟩:=h
  exact ⟨hb,ms,clock,(hk b (.inr hb)).trans h1,h2⟩⟩
section
variable {P:Program} {f:FuncId} {n:Nat} {ops:Array Oper} {l:List Oper} {k:List Item} {fr:Fr} {H:List Res} {ρ R:Type} {x:Option ρ} {X:ρ→Option R} {K:R→AV→List Res→Prop} {ty t kt et:TypeId} {d:Nat} {pos:String} {aft:Array Edge}
variable {κ ν:Type} [DecidableEq κ] {ek:κ→Value} {ev:ν→Value}
theorem pairs_get {ms:Array MapEntry} {es:List (κ×ν)} (h:ms.toList.map (fun e=>(e.key,e.val))=es.map fun p=>(ek p.1,ev p.2)) {j:Nat} {e:MapEntry} (hj:ms.toList[j]?=some e):∃ p,es[j]?=some p∧e.key=ek p.1∧e.val=ev p.2:=by
 have:=congrArg (·[j]?) h
 simp only [List.getElem?_map,hj,Option.map_some] at this
 cases hp:es[j]? with
 | none=>rw [hp] at this;cases this
 | some p =>
  rw [hp] at this
  simp only [Option.map_some,Option.some.injEq,Prod.mk.injEq] at this
  exact ⟨p,rfl,this.1,this.2⟩
theorem pairs_mem {ms:Array MapEntry} {es:List (κ×ν)} (h:ms.toList.map (fun e=>(e.key,e.val))=es.map fun p=>(ek p.1,ev p.2)) {p:κ×ν} (hp:p ∈ es):∃ e ∈ ms.toList,e.key=ek p.1∧e.val=ev p.2:=by
 have:(ek p.1,ev p.2) ∈ es.map fun p=>(ek p.1,ev p.2):=List.mem_map.2 ⟨p,hp,rfl⟩
 rw [← h] at this
 obtain ⟨e,he,hq⟩:=List.mem_map.1 this
 simp only [Prod.mk.injEq] at hq
 exact ⟨e,he,hq.1,hq.2⟩
theorem pairs_ent {ms:Array MapEntry} {es:List (κ×ν)} (h:ms.toList.map (fun e=>(e.key,e.val))=es.map fun p=>(ek p.1,ev p.2)) {e:MapEntry} (he:e ∈ ms.toList):∃ p ∈ es,e.key=ek p.1∧e.val=ev p.2:=by
 obtain ⟨j,hj⟩:=List.getElem?_of_mem he
 obtain ⟨p,h1,h2,h3⟩:=pairs_get h hj
 exact ⟨p,List.mem_of_getElem? h1,h2,h3⟩
theorem pairs_apart (M:MK P kt ek) {ms:Array MapEntry} {clock:Nat} {es:List (κ×ν)} (hs:Stamped ms clock) (h:ms.toList.map (fun e=>(e.key,e.val))=es.map fun p=>(ek p.1,ev p.2)):es.Pairwise fun p q=>p.1≠q.1:=by
 have h1:=((stamped_iff ms clock).1 hs).2.2
 have h2:(ms.toList.map (fun e=>(e.key,e.val))).Pairwise fun a b=>a.1≠b.1:=List.pairwise_map.2 h1
 rw [h,List.pairwise_map] at h2
 exact h2.imp fun hne e=>hne (congrArg ek e)
theorem find_is (M:MK P kt ek) {ms:Array MapEntry} {clock:Nat} {es:List (κ×ν)} (hs:Stamped ms clock) (h:ms.toList.map (fun e=>(e.key,e.val))=es.map fun p=>(ek p.1,ev p.2)) (y:κ) (w:World) :
  ((Instr.findKey kt (ek y) ms.toList).run P w = .ok none w∧(∀ p ∈ es,p.1≠y)∧∀ e ∈ ms.toList,e.key≠ek y) ∨
  ∃ j e p,(Instr.findKey kt (ek y) ms.toList).run P w = .ok (some (j,e.val)) w∧ms.toList[j]?=some e∧es[j]?=some p∧p.1=y∧e.key=ek y∧e.val=ev p.2:=by
 rcases M.find w y ms.toList (fun e he=>by
  obtain ⟨p,_,e1,_⟩:=pairs_ent h he
  exact ⟨p.1,e1⟩) with ⟨h1,h2⟩ | ⟨j,e,h1,h2,h3⟩
 ·refine .inl ⟨h1,fun p hp e=>?_,h2⟩
  obtain ⟨q,hq,e1,_⟩:=pairs_mem h hp
  exact h2 q hq (e1.trans (congrArg ek e))
 ·obtain ⟨p,g1,g2,g3⟩:=pairs_get h h2
  exact .inr ⟨j,e,p,h1,h2,g1,M.inj _ _ (g2.symm.trans h3),h3,g3⟩
theorem M8 (hdn:Nat.blt d n=true) (h:∀ b,SimL P f n ops l k ((d,.lit (.map (some b)))::fr) (.mp ek ev b []::H) x X K):SimL P f n ops (⟨some d,.makeMap t none,ty,pos,aft,none⟩::l) k fr H x X K :=
 ba (I:=Nat) (fun o ho hty w0 F0 Z0 w F Z ρ hi hf=>⟨.map (some w.heap.size),w.alloc (.map #[] 0),w.heap.size,_,Z,by simp [execOp,ho,run_makeMap,Sem.run_bind],hi.push _ (.mp ek ev w.heap.size []) ⟨rfl,#[],0,heap_alloc_new w _,stamped_empty 0,rfl⟩,fun _ x=>x,(Step.alloc w _ _).keep' hi,rfl⟩) hdn h
theorem look_run (M:MK P kt ek) (ht:P.underlying t=some (.map kt et)) {z:ν} (hz:∀ w,(zeroValue et).run P w = .ok (ev z) w) {b:Nat} {es:List (κ×ν)} {w:World} (h:MapAt ek ev w b es) (y:κ) (c:Bool) :
  (Instr.lookup t (.map (some b)) (ek y) c).run P w = .ok (if c then .tuple #[ev (mgetD z es y),.bool (mhas es y)] else ev (mgetD z es y)) w:=by
 obtain ⟨ms,clock,hh,hs,hp⟩:=h
 have hn:=pairs_apart M hs hp
 simp only [Instr.lookup,Sem.run_bind,run_underlying ht,Result.andThen_ok,Go.MapKept.run_getObj_map hh,Sem.run_pure,M.check w _ y]
 rcases find_is M hs hp y w with ⟨h1,h2,_⟩ | ⟨j,e,p,h1,h2,h3,h4,_,h5⟩
 ·simp only [h1,hz,Result.andThen_ok,Sem.run_bind,Sem.run_pure,mgetD,mhas,mget_none h2]
  cases c <;> rfl
 ·simp only [h1,Result.andThen_ok,Sem.run_pure,mgetD,mhas,mget_at hn h3 h4,h5]
  cases c <;> rfl
theorem mc {y m:Operand} {b j:Nat} {es:List (κ×ν)} {a:κ} {z:ν} (M:MK P kt ek) (ht:P.underlying t=some (.map kt et)) (hz:∀ w,(zeroValue et).run P w = .ok (ev z) w) (hm:arg fr m=some (.lit (.map (some b)))) (hj:H[j]?=some (.mp ek ev b es)) {av:AV} (hy:arg fr y=some av) (ha:∀ Z w v,av.p Z w v→v=ek a) :
  D P n H (.lookup t m y false) ty fr (.lit (ev (mgetD z es a))) :=
 .of fun q ho hty w Z F ρ hH hf=>by
  have e1:ρ m=_:=hf (by simp [Op.operands]) hm
  have e2:ρ y=_:=ha _ _ _ (hf (by simp [Op.operands]) hy)
  obtain ⟨F1,⟨hb,hma⟩,_⟩:=hH.at hj
  exact ⟨_,(by simp only [execOp,ho,e1,e2,look_run M ht hz hma,Sem.run_bind,Result.andThen_ok,Sem.run_pure];rfl),rfl⟩
theorem jc {y m:Operand} {b j:Nat} {es:List (κ×ν)} {a:κ} {z:ν} (M:MK P kt ek) (ht:P.underlying t=some (.map kt et)) (hz:∀ w,(zeroValue et).run P w = .ok (ev z) w) (hm:arg fr m=some (.lit (.map (some b)))) (hj:H[j]?=some (.mp ek ev b es)) {av:AV} (hy:arg fr y=some av) (ha:∀ Z w v,av.p Z w v→v=ek a) :
  D P n H (.lookup t m y true) ty fr (.tup [.lit (ev (mgetD z es a)),Ab (mhas es a)]) :=
 .of fun q ho hty w Z F ρ hH hf=>by
  have e1:ρ m=_:=hf (by simp [Op.operands]) hm
  have e2:ρ y=_:=ha _ _ _ (hf (by simp [Op.operands]) hy)
  obtain ⟨F1,⟨hb,hma⟩,_⟩:=hH.at hj
  exact ⟨_,(by simp only [execOp,ho,e1,e2,look_run M ht hz hma,Sem.run_bind,Result.andThen_ok,Sem.run_pure];rfl),[_,_],rfl,.cons rfl (.cons rfl .nil)⟩
theorem Step.setObj (w:World) (b:Nat) (o:Obj) (F1:Nat→Prop) (h:F1 b):Step w { w with heap:=w.heap.setIfInBounds b o } F1 :=
 ⟨rfl,rfl,rfl,Nat.le_refl _,by simp,fun c _ hf=>by
  have:b≠c:=fun e=>hf (e ▸ h)
  simp [this]⟩
theorem put_run (M:MK P kt ek) (ht:P.underlying t=some (.map kt et)) {b:Nat} {es:List (κ×ν)} {w:World} (h:MapAt ek ev w b es) (y:κ) (v:ν) :
  ∃ o,(Instr.mapUpdate t (.map (some b)) (ek y) (ev v)).run P w = .ok () { w with heap:=w.heap.setIfInBounds b o }∧MapAt ek ev { w with heap:=w.heap.setIfInBounds b o } b (mput es y v):=by
 obtain ⟨ms,clock,hh,hs,hp⟩:=h
 have hn:=pairs_apart M hs hp
 rcases find_is M hs hp y w with ⟨h1,h2,h3⟩ | ⟨j,e,p,h1,h2,h3,h4,h6,h5⟩
 ·refine ⟨.map (ms.push { key:=ek y,val:=ev v,born:=clock }) (clock+1),?_,_,_,(heap_set hh).1,stamped_push hs h3,?_⟩
  ·simp only [Instr.mapUpdate,Sem.run_bind,run_underlying ht,Go.MapKept.run_getObj_map hh,M.check w _ y,h1,Go.MapKept.run_setObj_map _ hh,Result.andThen_ok]
  ·rw [mput_new h2];simp [hp]
 ·have hj:ms[j]?=some e:=by simpa using h2
  refine ⟨.map (ms.modify j fun e=>{ e with key:=ek y,val:=ev v }) clock,?_,_,_,(heap_set hh).1,stamped_modify hs _ _ (fun _ _=>rfl) (fun e' _ he'=>by rw [hj] at he';cases he';exact h6.symm),?_⟩
  ·simp only [Instr.mapUpdate,Sem.run_bind,run_underlying ht,Go.MapKept.run_getObj_map hh,M.check w _ y,h1,hj,Option.map_some,Option.getD_some,h6,M.stays w y,Go.MapKept.run_setObj_map _ hh,Result.andThen_ok]
  ·rw [mput_at hn h3 h4]
   apply List.ext_getElem?
   intro i
   simp only [Array.toList_modify,List.getElem?_map,List.getElem?_modify,List.getElem?_set]
   have hi:=congrArg (·[i]?) hp
   simp only [List.getElem?_map] at hi
   by_cases hij:j=i
   ·subst hij
    have hl:j<es.length:=(List.getElem?_eq_some_iff.1 h3).1
    simp [h2,hl]
   ·simp only [hij,if_false]
    simpa using hi
theorem Wb {y m u:Operand} {b j:Nat} {es:List (κ×ν)} {a:κ} {v:ν} (M:MK P kt ek) (ht:P.underlying t=some (.map kt et)) (hm:arg fr m=some (.lit (.map (some b)))) (hj:H[j]?=some (.mp ek ev b es)) {av:AV} (hy:arg fr y=some av) (ha:∀ Z w v,av.p Z w v→v=ek a) (hu:arg fr u=some (.lit (ev v)))
  (h:SimL P f n ops l k fr (H.set j (.mp ek ev b (mput es a v))) x X K):SimL P f n ops (⟨none,.mapUpdate t m y u,ty,pos,aft,none⟩::l) k fr H x X K:=by
 refine Pb (fun o ho w0 F0 Z0 w F Z ρ hi hf=>?_) h
 have e1:ρ m=_:=hf (by simp [Op.operands]) hm
 have e2:ρ y=_:=ha _ _ _ (hf (by simp [Op.operands]) hy)
 have e3:ρ u=_:=hf (by simp [Op.operands]) hu
 obtain ⟨F1,⟨hb,hma⟩,_⟩:=hi.res.at hj
 obtain ⟨ob,h1,h2⟩:=put_run M ht hma a v
 obtain ⟨F',hi',hk⟩:=hi.turn (w':={ w with heap:=w.heap.setIfInBounds b ob }) (r':=.mp ek ev b (mput es a v)) hj fun F1 h3 hz1=>⟨F1,Step.setObj w b ob F1 h3.1,⟨h3.1,h2⟩,fun _ x=>.inl x⟩
 exact ⟨_,F',Z,by simp only [execOp,ho,e1,e2,e3,h1,Sem.run_bind,Result.andThen_ok,Sem.run_pure],hi',fun _ x=>x,hk⟩
end
theorem mkStr {P:Program} {kt:TypeId} (hk:P.underlying kt=some .string):MK P kt (fun s:ByteArray=>Value.string s) :=
 ⟨fun a b h=>(by injection h),fun w em x=>run_checkKey (k:=Value.string x) hk trivial em _,fun w x es h=>by
  rcases findNow_spec (d:=.string) (k:=.string x) trivial es 0 (fun e he=>by obtain ⟨y,hy⟩:=h e he;rw [hy];trivial) with ⟨h1,h2⟩ | ⟨j,e,h1,h2,h3⟩
  ·exact .inl ⟨run_findKey hk h1,h2⟩
  ·exact .inr ⟨j,e,(by rw [Nat.zero_add] at h1;exact run_findKey hk h1),h2,h3⟩,fun w x=>run_keyThatStays (d:=.string) (k:=Value.string x) trivial⟩
theorem mkInt {P:Program} {kt:TypeId} {q:IntKind} (hk:P.underlying kt=some (.int q)):MK P kt (fun x:Int=>Value.int q x) :=
 ⟨fun a b h=>(by injection h),fun w em x=>run_checkKey (k:=Value.int q x) hk rfl em _,fun w x es h=>by
  rcases findNow_spec (d:=.int q) (k:=.int q x) rfl es 0 (fun e he=>by obtain ⟨y,hy⟩:=h e he;rw [hy];exact rfl) with ⟨h1,h2⟩ | ⟨j,e,h1,h2,h3⟩
  ·exact .inl ⟨run_findKey hk h1,h2⟩
  ·exact .inr ⟨j,e,(by rw [Nat.zero_add] at h1;exact run_findKey hk h1),h2,h3⟩,fun w x=>run_keyThatStays (d:=.int q) (k:=Value.int q x) rfl⟩
theorem allP_lits {Z:Nat→Prop} {w:World} {us:List Value}:∀ {vs:List Value},AllP Z w (us.map AV.lit) vs→vs=us:=by
 induction us with
 | nil=>intro vs h;cases h;rfl
 | cons u us ih =>
  intro vs h
  cases h with
  | cons h1 h2=>rw [ih h2,show _=u from h1]
theorem agg_lit {Z:Nat→Prop} {w:World} {v:Value} {us:List Value} (h:(AV.agg (us.map AV.lit)).p Z w v):v = .agg us.toArray:=by
 obtain ⟨vs,rfl,h⟩:=h
 rw [allP_lits h]
def Cks (P:Program) (w:World) (em:Bool) (m:Nat) (cs:Array Value):List Field→Prop
 | []=>True
 | f::fs=>(f.name ≠ "_" → ∃ a,(part f.type cs f.offset).run P w = .ok a w∧(Instr.checkKey em m f.type a).run P w = .ok () w)∧Cks P w em m cs fs
theorem run_check_st {P:Program} {w:World} {em:Bool} {m:Nat} {t:TypeId} {fs:Array Field} {cs:Array Value} (hu:P.underlying t=some (.struct fs)) (h:Cks P w em m cs fs.toList):(Instr.checkKey em (m+1) t (.agg cs)).run P w = .ok () w:=by
 rw [Instr.checkKey]
 simp only [Sem.run_bind,run_underlying hu,Result.andThen_ok]
 rw [← Array.forIn_toList]
 generalize fs.toList=L at h
 induction L with
 | nil=>simp
 | cons f L ih =>
  obtain ⟨h1,h2⟩:=h
  by_cases hn:f.name = "_"
  ·simp only [List.forIn_cons,Sem.run_bind,hn,ne_eq,not_true_eq_false,if_false,Result.andThen_ok,Sem.run_pure]
   exact ih h2
  ·obtain ⟨a,p1,p2⟩:=h1 hn
   simp only [List.forIn_cons,Sem.run_bind,hn,ne_eq,not_false_eq_true,if_true,Result.andThen_ok,p1,p2,Sem.run_pure]
   exact ih h2
theorem asking {P:Program} {kt:TypeId} {κ:Type} [DecidableEq κ] {ek:κ→Value} (he:∀ w x y,(Op.equalIn 10000 kt (ek x) (ek y)).run P w = .ok (decide (x=y)) w) (hi:∀ a b,ek a=ek b→a=b) (w:World) (x:κ):∀ (es:List MapEntry) (i:Nat),(∀ e ∈ es,∃ y,e.key=ek y) →
  ((Instr.findAsking kt (ek x) es i).run P w = .ok none w∧∀ e ∈ es,e.key≠ek x)∨∃ j e,(Instr.findAsking kt (ek x) es i).run P w = .ok (some (i+j,e.val)) w∧es[j]?=some e∧e.key=ek x
 | [],i,_=>.inl ⟨by simp [Instr.findAsking],by simp⟩
 | e::es,i,hall=>by
  obtain ⟨y,hy⟩:=hall e (by simp)
  have hr:(Op.equal kt (ek x) e.key).run P w = .ok (decide (x=y)) w:=by rw [hy];exact he w x y
  by_cases hxy:x=y
  ·rw [decide_eq_true hxy] at hr
   exact .inr ⟨0,e,by simp [Instr.findAsking,hr],rfl,by rw [hy,hxy]⟩
  ·rw [decide_eq_false hxy] at hr
   rcases asking he hi w x es (i+1) (fun z hz=>hall z (by simp [hz])) with ⟨h1,h2⟩ | ⟨j,e',h1,h2,h3⟩
   ·refine .inl ⟨by simp [Instr.findAsking,hr,h1],fun z hz=>?_⟩
    rcases List.mem_cons.1 hz with rfl | hz
    ·exact fun q=>hxy (hi _ _ (q.symm.trans hy))
    ·exact h2 z hz
   ·exact .inr ⟨j+1,e',by simp [Instr.findAsking,hr,h1,Nat.add_assoc,Nat.add_comm 1 j],by simpa using h2,h3⟩
theorem sameBits_lit:∀ {n:Nat} {vs:List Value},(∀ v ∈ vs,Instr.sameBits n v v=true)→Instr.sameBits (n+1) (.agg vs.toArray) (.agg vs.toArray)=true:=by
 intro n vs h
 simp only [Instr.sameBits,beq_self_eq_true,Bool.true_and,List.all_eq_true]
 rintro ⟨a,b⟩ hab
 have:∀ {us:List Value},(∀ v ∈ us,Instr.sameBits n v v=true)→(a,b) ∈ us.zip us→Instr.sameBits n a b=true:=by
  intro us
  induction us with
  | nil=>intro _ h;simp at h
  | cons u us ih =>
   intro hu hm
   rw [List.zip_cons_cons] at hm
   rcases List.mem_cons.1 hm with e | hm
   ·cases e;exact hu _ (List.mem_cons_self ..)
   ·exact ih (fun v hv=>hu v (by simp [hv])) hm
 exact this h (by simpa using hab)
theorem mkSt {P:Program} {kt:TypeId} {κ:Type} [DecidableEq κ] {lits:κ→List Value} (hw:(match P.underlying kt with | some (.array _ _) | some (.struct _)=>true | _=>false)=true) (hi:∀ a b,Value.agg (lits a).toArray = .agg (lits b).toArray→a=b)
  (hc:∀ (w:World) (em:Bool) (x:κ),(Instr.checkKey em 10000 kt (.agg (lits x).toArray)).run P w = .ok () w) (he:∀ w x y,(Op.equalIn 10000 kt (.agg (lits x).toArray) (.agg (lits y).toArray)).run P w = .ok (decide (x=y)) w)
  (hb:∀ x,∀ v ∈ lits x,Instr.sameBits 9999 v v=true):MK P kt (fun x=>Value.agg (lits x).toArray) :=
 ⟨hi,hc,fun w x es h=>by
  rw [run_findKey_eq w hw]
  rcases asking he hi w x es 0 h with h | ⟨j,e,h1,h2⟩
  ·exact .inl h
  ·exact .inr ⟨j,e,by rw [Nat.zero_add] at h1;exact h1,h2⟩,fun w x=>by
  simp [Instr.keyThatStays,sameBits_lit (hb x)]⟩
end S
namespace S
open Go.RowKit
set_option linter.unusedVariables false
set_option linter.unusedSimpArgs false
section
variable {H:List Res} {w0 w:World} {F0 Z0 F Z:Nat→Prop}
theorem Inv.part {j:Nat} {r:Res} {I:Type} {ra rb:I→Res} (hi:Inv w0 w F0 Z0 F Z H) (hj:H[j]?=some r)
  (hs:∀ F1,r.h Z w F1→∃ i,∃ G1 G2:Nat→Prop,(ra i).h Z w G1∧(rb i).h Z w G2∧(∀ b,G1 b→F1 b∧¬ G2 b)∧(∀ b,G2 b→F1 b)):∃ i,Inv w0 w F0 Z0 F Z (ra i::rb i::H.eraseIdx j):=by
 obtain ⟨F1,F2,h1,h2,d1,d2⟩:=hi.res.take hj
 obtain ⟨i,G1,G2,g1,g2,e1,e2⟩:=hs F1 h1
 refine ⟨i,hi.base,hi.z0,hi.zin,hi.fin,G1,fun b=>G2 b∨F2 b,g1,⟨G2,F2,g2,h2,fun b hb=>⟨.inl hb,(d1 b (e2 b hb)).2⟩,fun b hb=>.inr hb⟩,fun b hb=>⟨(d1 b (e1 b hb).1).1,fun x=>x.elim (e1 b hb).2 (d1 b (e1 b hb).1).2⟩,fun b hb=>hb.elim (fun x=>(d1 b (e2 b x)).1) (d2 b)⟩
theorem Inv.meet {j j2:Nat} {ra rb r:Res} (hi:Inv w0 w F0 Z0 F Z H) (hj:H[j]?=some ra) (hj2:(H.eraseIdx j)[j2]?=some rb)
  (hs:∀ G1 G2:Nat→Prop,(∀ b,G1 b→¬ G2 b)→ra.h Z w G1→rb.h Z w G2→r.h Z w fun b=>G1 b∨G2 b):Inv w0 w F0 Z0 F Z (r::(H.eraseIdx j).eraseIdx j2):=by
 obtain ⟨F1,F2,h1,h2,d1,d2⟩:=hi.res.take hj
 obtain ⟨G1,G2,g1,g2,e1,e2⟩:=h2.take hj2
 refine ⟨hi.base,hi.z0,hi.zin,hi.fin,fun b=>F1 b∨G1 b,G2,hs F1 G1 (fun b hb x=>(d1 b hb).2 (e1 b x).1) h1 g1,g2,fun b hb=>?_,fun b hb=>d2 b (e2 b hb)⟩
 rcases hb with hb | hb
 ·exact ⟨(d1 b hb).1,fun x=>(d1 b hb).2 (e2 b x)⟩
 ·exact ⟨d2 b (e1 b hb).1,(e1 b hb).2⟩
end
section
variable {P:Program} {f:FuncId} {n:Nat} {ops:Array Oper} {l:List Oper} {k:List Item} {fr:Fr} {H:List Res} {ρ R:Type} {x:Option ρ} {X:ρ→Option R} {K:R→AV→List Res→Prop} {ty t t' e t0:TypeId} {d:Nat} {pos:String} {aft:Array Edge}
theorem zd {todo:List Item} (j j2:Nat) {ra rb r:Res} (hj:H[j]?=some ra) (hj2:(H.eraseIdx j)[j2]?=some rb)
  (hs:∀ Z w,∀ G1 G2:Nat→Prop,(∀ b,G1 b→¬ G2 b)→ra.h Z w G1→rb.h Z w G2→r.h Z w fun b=>G1 b∨G2 b) (h:Sim P f n todo fr (r::(H.eraseIdx j).eraseIdx j2) x X K):Sim P f n todo fr H x X K:=by
 intro q hq w0 F0 Z0 w F Z tmps hn hi hf
 exact h q hq w0 F0 Z0 w F Z tmps hn (hi.meet hj hj2 (hs Z w)) hf
theorem ac {todo:List Item} (j:Nat) {r r':Res} (hj:H[j]?=some r) (hs:∀ Z w F1,r.h Z w F1→r'.h Z w F1) (h:Sim P f n todo fr (H.set j r') x X K):Sim P f n todo fr H x X K:=by
 intro q hq w0 F0 Z0 w F Z tmps hn hi hf
 obtain ⟨F',hi',_⟩:=hi.turn (w':=w) (r':=r') hj fun G1 h1 _=>⟨G1,Step.refl _ _,hs _ _ _ h1,fun _ x=>.inl x⟩
 exact h q hq w0 F0 Z0 w F' Z tmps hn hi' hf
end
structure Tr (T:Type) where
 t:TypeId
 c:Co (T×Value)
 q:Co T
 ch:T→Value→Res
 sz:q.sz=c.sz
 fz:∀ {x:T} {u:Value} {Z F:Nat→Prop} {w:World} {vs:List Value},(ch x u).h Z w F→AllP Z w (c.e (x,u)) vs→AllP (fun b=>Z b∨F b) w (q.e x) vs
def Res.kids {T:Type} (ch:T→Value→Res) (xs:List T) (us:List Value) (o:Option Nat):Res :=
 ⟨fun Z w F=>∃ Fs:Nat→Nat→Prop,(∀ k x u,xs[k]?=some x→us[k]?=some u→o≠some k→(ch x u).h Z w (Fs k))∧(∀ k b,Fs k b→F b)∧∀ k k' b,Fs k b→Fs k' b→k=k',
  fun hz hk ⟨Fs,h1,h2,h3⟩=>⟨Fs,fun k x u hx hu ho=>(ch x u).st hz (fun b hb=>hk b (hb.imp id (h2 k b))) (h1 k x u hx hu ho),h2,h3⟩⟩
def holed (o:Option (Int×Value)):Option Nat:=o.map fun p=>p.1.toNat
def Res.tro {T:Type} (D:Tr T) (v:Value) (xs:List T) (o:Option (Int×Value)):Res :=
 ⟨fun Z w F=>∃ us:List Value,∃ F1 F2:Nat→Prop,us.length=xs.length∧(∀ (i:Int) (u:Value),o=some (i,u)→us[i.toNat]?=some u)∧(Res.own D.t D.c v (xs.zip us)).h Z w F1∧(Res.kids D.ch xs us (holed o)).h Z w F2∧(∀ b,F1 b→F b∧¬ F2 b)∧∀ b,F2 b→F b,
  fun hz hk ⟨us,F1,F2,h1,h2,h3,h4,d1,d2⟩=>⟨us,F1,F2,h1,h2,Res.st _ hz (fun b hb=>hk b (hb.imp id fun x=>(d1 b x).1)) h3,Res.st _ hz (fun b hb=>hk b (hb.imp id (d2 b))) h4,d1,d2⟩⟩
theorem zip_len {T:Type} {xs:List T} {us:List Value} (hl:us.length=xs.length):(xs.zip us).length=xs.length:=by simp [hl]
theorem tro_fsl {T:Type} {D:Tr T} {v:Value} {xs:List T} {Z F:Nat→Prop} {w:World} (h:(Res.tro D v xs none).h Z w F):(AV.fsl D.q xs).p (fun b=>Z b∨F b) w v:=by
 obtain ⟨us,F1,F2,hl,_,h3,⟨Fs,k1,k2,k3⟩,d1,d2⟩:=h
 obtain ⟨A,m,e1,hc,hel⟩:=own_fsl h3
 rw [zip_len hl] at e1 hc
 refine ⟨A,m,e1,hc,fun i x hx=>?_⟩
 have hi:i<xs.length:=by
  rcases Nat.lt_or_ge i xs.length with h | h
  ·exact h
  ·simp [h] at hx
 have hu:us[i]?=some (us[i]'(by omega)):=List.getElem?_eq_getElem (by omega)
 obtain ⟨a,ea,hb,vs,g1,g2⟩:=hel i (x,us[i]'(by omega)) (by simp [List.getElem?_zip_eq_some,hx,hu])
 refine ⟨a,ea,hb.imp id fun y=>(d1 _ y).1,vs,?_,by rw [D.sz];exact g2⟩
 have hk:=(D.ch x (us[i]'(by omega))).st (Z':=fun b=>Z b∨F1 b) (fun _ y=>.inl y) (fun _ _=>rfl) (k1 i x _ hx hu (by simp [holed]))
 exact (D.fz hk g1).st (fun b hb=>by rcases hb with (y | y) | y;exact .inl y;exact .inr (d1 b y).1;exact .inr (d2 b (k2 i b y))) (fun _ _=>rfl)
section
variable {P:Program} {f:FuncId} {n:Nat} {ops:Array Oper} {l:List Oper} {k:List Item} {fr:Fr} {H:List Res} {ρ R:Type} {x:Option ρ} {X:ρ→Option R} {K:R→AV→List Res→Prop} {ty t t' e t0:TypeId} {d:Nat} {pos:String} {aft:Array Edge}
variable {T:Type} {D:Tr T} {v:Value} {xs:List T} {j:Nat} {o:Option (Int×Value)}
inductive LendL (H:List Res):List AV→List AV→Prop
 | n:LendL H [] []
 | k {a:AV} {aS bs:List AV}:LendL H aS bs→LendL H (a::aS) (a::bs)
 | e {T:Type} (c:Co T) {aS bs:List AV}:LendL H aS bs→LendL H (.lit (.slice none 0 0)::aS) (.fsl c []::bs)
 | o {T:Type} {t:TypeId} {c:Co T} {v:Value} {xs:List T} {aS bs:List AV} (j:Nat):H[j]?=some (.own t c v xs)→LendL H aS bs→LendL H (.sv v::aS) (.fsl c xs::bs)
 | z {T:Type} {c:Co T} {v:Value} {xs:List T} {aS bs:List AV} (j:Nat):H[j]?=some (.fz c v xs)→LendL H aS bs→LendL H (.sv v::aS) (.fsl c xs::bs)
 | t {T:Type} {D:Tr T} {v:Value} {xs:List T} {aS bs:List AV} (j:Nat):H[j]?=some (.tro D v xs none)→LendL H aS bs→LendL H (.sv v::aS) (.fsl D.q xs::bs)
 | x {a b:AV} {aS bs:List AV}:(∀ {Z F:Nat→Prop} {w:World} {u:Value},HAll H Z w F→a.p Z w u→b.p (fun b=>Z b∨F b) w u)→LendL H aS bs→LendL H (a::aS) (b::bs)
theorem lend_ok {aS bs:List AV} (h:LendL H aS bs) {Z F:Nat→Prop} {w:World} (hH:HAll H Z w F):∀ {vs:List Value},AllP Z w aS vs→AllP (fun b=>Z b∨F b) w bs vs:=by
 have hzz:∀ b,Z b→Z b∨F b:=fun _ x=>.inl x
 induction h with
 | n=>intro vs h;cases h;exact .nil
 | k _ ih=>intro vs h;cases h with | cons h1 h2=>exact .cons (AV.st _ hzz (Keep.refl _ _) h1) (ih h2)
 | e c _ ih=>intro vs h;cases h with | cons h1 h2=>exact .cons (by rw [show _=_ from h1];exact nil_fsl c _ _) (ih h2)
 | o j hj _ ih =>
  intro vs h;cases h with | cons h1 h2 =>
  obtain ⟨F1,g1,hF⟩:=hH.at hj
  exact .cons (by rw [h1.1];exact AV.st _ (fun b hb=>hb.imp id (hF b)) (Keep.refl _ _) (own_fsl g1)) (ih h2)
 | z j hj _ ih =>
  intro vs h;cases h with | cons h1 h2 =>
  obtain ⟨F1,g1,hF⟩:=hH.at hj
  exact .cons (by rw [h1.1];exact AV.st _ hzz (Keep.refl _ _) g1) (ih h2)
 | t j hj _ ih =>
  intro vs h;cases h with | cons h1 h2 =>
  obtain ⟨F1,g1,hF⟩:=hH.at hj
  exact .cons (by rw [h1.1];exact AV.st _ (fun b hb=>hb.imp id (hF b)) (Keep.refl _ _) (tro_fsl g1)) (ih h2)
 | x hab _ ih=>intro vs h;cases h with | cons h1 h2=>exact .cons (hab hH h1) (ih h2)
theorem lendA {aS bs:List AV} (h:LendL H aS bs) {Z F:Nat→Prop} {w:World} {u:Value} (hH:HAll H Z w F) (hp:(AV.agg aS).p Z w u):(AV.agg bs).p (fun b=>Z b∨F b) w u:=by
 obtain ⟨vs,e,h1⟩:=hp
 exact ⟨vs,e,lend_ok h hH h1⟩
def FlatR (r:Res):Prop:=∀ Z Z' w F,r.h Z w F→r.h Z' w F
theorem flSv {v:Value}:Flat (.sv v):=fun _ _ _ _ _ h=>h
theorem flOwn {t:TypeId} {c:Co T} {xs:List T} (h:∀ x,FlatL (c.e x)):FlatR (.own t c v xs):=fun Z Z' w F hr=>hr.imp (fun ⟨cs,h1,h2,h3⟩=>⟨cs,h1,h2,fun i x hx=>let ⟨vs,g1,g2⟩:=h3 i x hx;⟨vs,flL (h x) g1,g2⟩⟩) id
def FlatRs:List Res→Prop
 | []=>True
 | r::rs=>FlatR r∧FlatRs rs
theorem HAll.flat {H:List Res} (h:FlatRs H) {Z Z':Nat→Prop} {w:World}:∀ {F:Nat→Prop},HAll H Z w F→HAll H Z' w F:=by
 induction H with
 | nil=>intro F _;trivial
 | cons r rs ih=>rintro F ⟨F1,F2,h1,h2,d1,d2⟩;exact ⟨F1,F2,h.1 _ _ _ _ h1,ih h.2 h2,d1,d2⟩
theorem Gb {g:FuncId} {y:Operand} {args:Array Operand} {ts:Array TypeId} {avs:List AV} {Q I:Type} {z:Option Q} {A:Q→I→AV} {B:Q→I→List Res} {r:Q} (hg:Ent P g) (hy:arg fr y=some (.lit (.func (.func g) #[] #[]))) (hp:Hands P g avs [] z A B) (hz:z=some r) (hfa:∀ ι,Flat (A r ι)) (hfb:∀ ι,FlatRs (B r ι)) (ha:Args fr H args.toList avs) (hdn:Nat.blt d n=true)
  (h:∀ ι,SimL P f n ops l k ((d,A r ι)::fr) (B r ι++H) x X K):SimL P f n ops (⟨some d,.call ⟨.value y,args,ts⟩,ty,pos,aft,none⟩::l) k fr H x X K:=by
 intro is hs r' hr w0 F0 Z0 w F Z tmps hn hi hf
 cases is with
 | nil=>simp at hs
 | cons i is =>
  simp only [List.map_cons,List.cons.injEq] at hs
  have hdn':d<n:=by simpa [Nat.blt_eq] using hdn
  have all:∀ {x:Operand} {a:AV},arg fr x=some a→a.p Z w ((⟨tmps,[]⟩:Act).eval x):=by
   intro x a hx
   cases x with
   | tmp t=>exact hf t a hx
   | const v=>simp [arg] at hx;subst hx;rfl
   | func g=>simp [arg] at hx;subst hx;rfl
   | global g=>simp [arg] at hx;subst hx;rfl
  have hargs:=args_ok (ρ:=(⟨tmps,[]⟩:Act).eval) ha hi.res fun {x a} _ hx=>all hx
  have hin:Inv w w (fun _=>False) (fun b=>Z b∨F b) (fun _=>False) (fun b=>Z b∨F b) []:=⟨Base.refl _ _,fun _ x=>x,fun b hb=>⟨hb.elim (fun x=>(hi.zin b x).1) (fun x=>(hi.fin b x).1),.inl hb⟩,fun _ x=>x.elim,trivial⟩
  refine .enter hs.1 (wanted_none rfl) (call_run' (all hy) rfl hg) (hp r hz w (fun _=>False) (fun b=>Z b∨F b) _ hargs hin) ?_
  rintro e w'' ⟨v,rfl,F',Z',av,H',⟨ι,rfl,rfl⟩,hinv,hv⟩
  refine ⟨v,rfl,?_⟩
  have s:Step w w'' (fun _=>False):=⟨hinv.base.os,hinv.base.tape,hinv.base.output,hinv.base.drawn,hinv.base.size,fun b hb _=>hinv.base.keep b hb id⟩
  have hk:=s.keep' hi
  have hF':∀ b,F' b→w.heap.size≤b∧b<w''.heap.size:=fun b hb=>⟨(hinv.fin b hb).2.1.elim (fun z=>z.elim) id,(hinv.fin b hb).1⟩
  refine h ι is hs.2 r' hr w0 F0 Z0 w'' (fun b=>F' b∨F b) Z _ (by simpa [putT] using hn) ?_ ((hf.st (fun _ x=>x) hk).put (by omega) (hfa ι _ _ _ _ _ hv))
  refine hi.step s (fun _ x=>x.elim) (fun _ x=>x) (fun _ x=>.inl x) (fun b hb=>?_) ((hinv.res.flat (hfb ι)).append (hi.res.st (fun _ x=>x) fun b hb=>s.keep b (hb.elim (fun x=>(hi.zin b x).1) (fun x=>(hi.fin b x).1)) id) fun b hb hF=>?_)
  ·rcases hb with hb | hb
   ·exact ⟨.inr (hF' b hb),fun hz=>by have:=(hi.zin b hz).1;have:=(hF' b hb).1;omega⟩
   ·exact ⟨.inl hb,(hi.fin b hb).2.2⟩
  ·have:=(hi.fin b hF).1;have:=(hF' b hb).1;omega
theorem pure_of_hands {g:FuncId} {avs:List AV} {Q I:Type} {y:Option Q} {A:Q→I→AV} {B:Q→I→List Res} {en:Q→AV} (h:Hands P g avs [] y A B) (hA:∀ r ι Z F w u,HAll (B r ι) Z w F→(A r ι).p Z w u→(en r).p (fun b=>Z b∨F b) w u):Pure P g avs y en:=by
 intro r hr w F Z vs h1 h2
 refine (h r hr w F Z vs h1 h2).mono fun e w' ⟨v,he,F',Z',a,H',⟨u,ha,hH⟩,hinv,hp⟩=>?_
 subst ha hH
 have hzz:∀ b,Z' b→Z' b∨F' b:=fun _ x=>.inl x
 exact ⟨v,he,fun _=>False,fun b=>Z' b∨F' b,_,[],⟨rfl,rfl⟩,hinv.step (F1:=fun _=>False) (Step.refl _ _) (fun _ x=>x.elim) hzz (fun b x=>x.imp id fun y=>.inl y) (fun b x=>x.elim) trivial,hA r u _ _ _ v hinv.res hp⟩
theorem own_nil {t:TypeId} {c:Co T} {Z F:Nat→Prop} {w:World}:(Res.own t c (.slice none 0 0) ([]:List T)).h Z w F:=.inr ⟨rfl,none,rfl⟩
end
end S
namespace S
open Go.RowKit
set_option linter.unusedVariables false
set_option linter.unusedSimpArgs false
section
variable {P:Program} {f:FuncId} {n:Nat} {ops:Array Oper} {l:List Oper} {k:List Item} {fr:Fr} {H:List Res} {ρ R:Type} {x:Option ρ} {X:ρ→Option R} {K:R→AV→List Res→Prop} {ty t t' e t0:TypeId} {d:Nat} {pos:String} {aft:Array Edge}
variable {T:Type} {c:Co T} {v:Value} {xs:List T} {j:Nat}
theorem run_eqIn_nil (w:World) (d:Nat) {A:Option Addr} {m q:Nat} (ht:P.underlying t=some (.slice e)):(Op.equalIn (d+1) t (.slice A m q) (.slice none 0 0)).run P w = .ok A.isNone w:=by
 cases A <;> simp [Op.equalIn,run_underlying ht]
theorem eql_nil {A:Option Addr} {m q:Nat} {w:World} (ht:P.underlying t=some (.slice e)):(binOp .eql t (.slice A m q) (.slice none 0 0)).run P w = .ok (.bool A.isNone) w:=by
 simp only [binOp,Op.equal,Op.maxDepth,Sem.run_bind,run_eqIn_nil w 9999 ht,Result.andThen_ok,Sem.run_pure]
theorem lendT {aS bs:List AV} (h:LendL H aS bs) {Z F:Nat→Prop} {w:World} {u:Value} (hH:HAll H Z w F) (hp:(AV.tup aS).p Z w u):(AV.tup bs).p (fun b=>Z b∨F b) w u:=by
 obtain ⟨vs,e,h1⟩:=hp
 exact ⟨vs,e,lend_ok h hH h1⟩
end
end S
namespace S
open Go.RowKit
set_option linter.unusedVariables false
set_option linter.unusedSimpArgs false
set_option linter.unusedSectionVars false
structure Tg (T:Type) where
 G:Type
 t:TypeId
 c:Co (T×G)
 q:Co T
 ch:T→G→List Res
 sz:q.sz=c.sz
 fz:∀ {x:T} {u:G} {Z F:Nat→Prop} {w:World} {vs:List Value},HAll (ch x u) Z w F→AllP Z w (c.e (x,u)) vs→AllP (fun b=>Z b∨F b) w (q.e x) vs
def Res.kidsG {T G:Type} (ch:T→G→List Res) (xs:List T) (us:List G) (o:Option Nat):Res :=
 ⟨fun Z w F=>∃ Fs:Nat→Nat→Prop,(∀ k x u,xs[k]?=some x→us[k]?=some u→o≠some k→HAll (ch x u) Z w (Fs k))∧(∀ k b,Fs k b→F b)∧∀ k k' b,Fs k b→Fs k' b→k=k',
  fun hz hk ⟨Fs,h1,h2,h3⟩=>⟨Fs,fun k x u hx hu ho=>(h1 k x u hx hu ho).st hz (fun b hb=>hk b (hb.imp id (h2 k b))),h2,h3⟩⟩
def told {G:Type} (us:List G):Option (Int×G)→List G
 | none=>us
 | some p=>us.set p.1.toNat p.2
def holeG {G:Type} (o:Option (Int×G)):Option Nat:=o.map fun p=>p.1.toNat
theorem told_len {G:Type} {us:List G} {o:Option (Int×G)}:(told us o).length=us.length:=by cases o <;> simp [told]
def Res.trg {T:Type} (D:Tg T) (v:Value) (xs:List T) (us:List D.G) (o:Option (Int×D.G)):Res :=
 ⟨fun Z w F=>us.length=xs.length∧∃ F1 F2:Nat→Prop,(Res.own D.t D.c v (xs.zip (told us o))).h Z w F1∧(Res.kidsG D.ch xs us (holeG o)).h Z w F2∧(∀ b,F1 b→F b∧¬ F2 b)∧∀ b,F2 b→F b,
  fun hz hk ⟨hl,F1,F2,h3,h4,d1,d2⟩=>⟨hl,F1,F2,Res.st _ hz (fun b hb=>hk b (hb.imp id fun x=>(d1 b x).1)) h3,Res.st _ hz (fun b hb=>hk b (hb.imp id (d2 b))) h4,d1,d2⟩⟩
theorem rd_zipG {T G:Type} [Inhabited T] [Inhabited G] {xs:List T} {us:List G} {i:Int} (hl:us.length=xs.length) (h0:0≤i) (h1:i<xs.length):rd (xs.zip us) i=(rd xs i,rd us i):=by
 have h2:i.toNat<xs.length:=by omega
 have h3:i.toNat<us.length:=by omega
 simp [rd,List.getD_eq_getElem?_getD,h2,h3,hl]
theorem zip_lenG {T G:Type} {xs:List T} {us:List G} (hl:us.length=xs.length):(xs.zip us).length=xs.length:=by simp [hl]
theorem zip_setG {T G:Type} {x':T} {u':G}:∀ {xs:List T} {us:List G} {i:Nat},(xs.zip us).set i (x',u')=(xs.set i x').zip (us.set i u')
 | [],us,i=>by simp
 | x::xs,[],i=>by cases i <;> simp
 | x::xs,v::us,0=>by simp
 | x::xs,v::us,i+1=>by simp [zip_setG]
def pk:List Res→List Nat→Option (List Res×List Res)
 | H,[]=>some ([],H)
 | H,j::js=>match H[j]? with
  | some r=>(pk (H.eraseIdx j) js).map fun p=>(r::p.1,p.2)
  | none=>none
theorem HAll.pk {Z:Nat→Prop} {w:World}:∀ {js:List Nat} {H ks R:List Res} {F:Nat→Prop},S.pk H js=some (ks,R)→HAll H Z w F→∃ F1 F2:Nat→Prop,HAll ks Z w F1∧HAll R Z w F2∧(∀ b,F1 b→F b∧¬ F2 b)∧∀ b,F2 b→F b
 | [],H,ks,R,F,h,hH=>by simp [S.pk] at h;obtain ⟨rfl,rfl⟩:=h;exact ⟨fun _=>False,F,trivial,hH,fun _ x=>x.elim,fun _ x=>x⟩
 | j::js,H,ks,R,F,h,hH=>by
  unfold S.pk at h
  cases hr:H[j]? with
  | none=>simp [hr] at h
  | some r =>
   simp only [hr,Option.map_eq_some_iff] at h
   obtain ⟨⟨ks',R'⟩,h2,h3⟩:=h
   simp at h3;obtain ⟨rfl,rfl⟩:=h3
   obtain ⟨F1,F2,h1,h4,d1,d2⟩:=hH.take hr
   obtain ⟨F3,F4,h5,h6,e1,e2⟩:=HAll.pk h2 h4
   refine ⟨fun b=>F1 b∨F3 b,F4,⟨F1,F3,h1,h5,fun b hb=>⟨.inl hb,fun x=>(d1 b hb).2 (e1 b x).1⟩,fun b hb=>.inr hb⟩,h6,fun b hb=>?_,fun b hb=>d2 b (e2 b hb)⟩
   rcases hb with hb | hb
   ·exact ⟨(d1 b hb).1,fun x=>(d1 b hb).2 (e2 b x)⟩
   ·exact ⟨d2 b (e1 b hb).1,(e1 b hb).2⟩
theorem trg_fsl {T:Type} {D:Tg T} {v:Value} {xs:List T} {us:List D.G} {Z F:Nat→Prop} {w:World} (h:(Res.trg D v xs us none).h Z w F):(AV.fsl D.q xs).p (fun b=>Z b∨F b) w v:=by
 obtain ⟨hl,F1,F2,h3,⟨Fs,k1,k2,k3⟩,d1,d2⟩:=h
 obtain ⟨A,m,e1,hc,hel⟩:=own_fsl (xs:=xs.zip us) h3
 rw [zip_lenG hl] at e1 hc
 refine ⟨A,m,e1,hc,fun i x hx=>?_⟩
 have hi:i<xs.length:=by
  rcases Nat.lt_or_ge i xs.length with h | h
  ·exact h
  ·simp [h] at hx
 have hu:us[i]?=some (us[i]'(by omega)):=List.getElem?_eq_getElem (by omega)
 obtain ⟨a,ea,hb,vs,g1,g2⟩:=hel i (x,us[i]'(by omega)) (by simp [List.getElem?_zip_eq_some,hx,hu])
 refine ⟨a,ea,hb.imp id fun y=>(d1 _ y).1,vs,?_,by rw [D.sz];exact g2⟩
 have hk:=(k1 i x _ hx hu (by simp [holeG])).st (Z':=fun b=>Z b∨F1 b) (w':=w) (fun _ y=>.inl y) (fun _ _=>rfl)
 exact (D.fz hk g1).st (fun b hb=>by rcases hb with (y | y) | y;exact .inl y;exact .inr (d1 b y).1;exact .inr (d2 b (k2 i b y))) (fun _ _=>rfl)
section
variable {P:Program} {f:FuncId} {n:Nat} {ops:Array Oper} {l:List Oper} {k:List Item} {fr:Fr} {H:List Res} {ρ R:Type} {x:Option ρ} {X:ρ→Option R} {K:R→AV→List Res→Prop} {ty t t' e t0:TypeId} {d:Nat} {pos:String} {aft:Array Edge}
variable {T:Type} {D:Tg T} {v:Value} {xs:List T} {us:List D.G} {j:Nat} {o:Option (Int×D.G)}
theorem rc {H':List Res} {op:Op} {av:AV} (hH:∀ {Z F:Nat→Prop} {w:World},HAll H Z w F→HAll H' Z w F) (h:S.D P n H' op ty fr av):S.D P n H op ty fr av :=
 fun o ho hty w0 F0 Z0 w F Z tmps hn hi hf=>h o ho hty w0 F0 Z0 w F Z tmps hn (hi.less hH) hf
theorem Ga {todo:List Item} {H':List Res} (hH:∀ {Z F:Nat→Prop} {w:World},HAll H Z w F→HAll H' Z w F) (h:Sim P f n todo fr H' x X K):Sim P f n todo fr H x X K :=
 fun r hr w0 F0 Z0 w F Z tmps hn hi hf=>h r hr w0 F0 Z0 w F Z tmps hn (hi.less hH) hf
theorem trg_at {Z F:Nat→Prop} {w:World} (hH:HAll H Z w F) (hj:H[j]?=some (.trg D v xs us o)):us.length=xs.length:=by
 obtain ⟨F1,h,_⟩:=hH.at hj
 exact h.1
theorem trg_part {Z F:Nat→Prop} {w:World} (hH:HAll H Z w F) (hj:H[j]?=some (.trg D v xs us o)):HAll (.own D.t D.c v (xs.zip (told us o)) :: .kidsG D.ch xs us (holeG o)::H.eraseIdx j) Z w F:=by
 obtain ⟨F1,F2,⟨hl,G1,G2,g1,g2,e1,e2⟩,h2,d1,d2⟩:=hH.take hj
 exact ⟨G1,fun b=>G2 b∨F2 b,g1,⟨G2,F2,g2,h2,fun b hb=>⟨.inl hb,(d1 b (e2 b hb)).2⟩,fun b hb=>.inr hb⟩,fun b hb=>⟨(d1 b (e1 b hb).1).1,fun x=>x.elim (e1 b hb).2 (d1 b (e1 b hb).1).2⟩,fun b hb=>hb.elim (fun x=>(d1 b (e2 b x)).1) (d2 b)⟩
theorem trg_meet {Z F:Nat→Prop} {w:World} {R:List Res} (hl:us.length=xs.length) (hH:HAll (.own D.t D.c v (xs.zip (told us o)) :: .kidsG D.ch xs us (holeG o)::R) Z w F):HAll (.trg D v xs us o::R) Z w F:=by
 obtain ⟨G1,E,g1,⟨G2,F2,g2,h2,e1,e2⟩,d1,d2⟩:=hH
 exact ⟨fun b=>G1 b∨G2 b,F2,⟨hl,G1,G2,g1,g2,fun b hb=>⟨.inl hb,fun x=>(d1 b hb).2 (e1 b x).1⟩,fun b hb=>.inr hb⟩,h2,fun b hb=>hb.elim (fun x=>⟨(d1 b x).1,fun y=>(d1 b x).2 (e2 b y)⟩) (fun x=>⟨d2 b (e1 b x).1,(e1 b x).2⟩),fun b hb=>d2 b (e2 b hb)⟩
theorem Mc {op:Op} {av:AV} (hj:H[j]?=some (.trg D v xs us o)) (h:us.length=xs.length→S.D P n (.own D.t D.c v (xs.zip (told us o)) :: .kidsG D.ch xs us (holeG o)::H.eraseIdx j) op ty fr av):S.D P n H op ty fr av :=
 fun q ho hty w0 F0 Z0 w F Z tmps hn hi hf=>rc (fun hH=>trg_part hH hj) (h (trg_at hi.res hj)) q ho hty w0 F0 Z0 w F Z tmps hn hi hf
theorem Mb {y:Operand} (ht:P.underlying t=some (.slice e)) (hy:arg fr y=some (.sv v)) (hj:H[j]?=some (.trg D v xs us o)):S.D P n H (.call ⟨.builtin .len,#[y],#[t]⟩) ty fr (Ai .i64 xs.length) :=
 Mc hj fun hl=>by
  have:=c9 (P:=P) (n:=n) (ty:=ty) (j:=0) (H:=.own D.t D.c v (xs.zip (told us o)) :: .kidsG D.ch xs us (holeG o)::H.eraseIdx j) ht hy rfl
  rw [zip_lenG (told_len.trans hl)] at this;exact this
theorem dIxG {y z:Operand} {kd:IntKind} {i:Int} (ht:P.underlying t=some (.slice e)) (hsz:SizeIs P e D.c.sz) (hy:arg fr y=some (.sv v)) (hj:H[j]?=some (.trg D v xs us o)) (hz:arg fr z=some (Ai kd i)) (h0:0≤i) (h1:i<xs.length):S.D P n H (.indexAddr t y z) ty fr (.ep v (i.toNat*D.c.sz)) :=
 Mc hj fun hl=>kc (j:=0) ht hsz hy rfl hz h0 (by rw [zip_lenG (told_len.trans hl)];exact h1)
theorem dLdG [Inhabited T] [Inhabited D.G] {y:Operand} {m off:Nat} {a:AV} (i:Int) (hg:IsAgg P t false) (hy:arg fr y=some (.ep v m)) (hj:H[j]?=some (.trg D v xs us none)) (hm:m=i.toNat*D.c.sz+off) (h0:0≤i) (h1:i<xs.length) (ha:(D.c.e (rd xs i,rd us i))[off]?=some a):S.D P n H (.load t y) ty fr a :=
 Mc hj fun hl=>dLdO (j:=0) i hg hy rfl hm h0 (by rw [zip_lenG (told_len.trans hl)];exact h1) (by rw [rd_zipG (told_len.trans hl) h0 h1];exact ha)
theorem rd_at {G:Type} [Inhabited G] {us:List G} {i:Int} (h0:0≤i) (h1:i<us.length):us[i.toNat]?=some (rd us i):=rd_get h0 h1
theorem pd [Inhabited T] [Inhabited D.G] {i:Int} {op:Op} {av:AV} (hj:H[j]?=some (.trg D v xs us none)) (h0:0≤i) (h1:i<xs.length) (h:S.D P n (D.ch (rd xs i) (rd us i)) op ty fr av):S.D P n H op ty fr av:=by
 refine rc (fun {Z F w} hH=>?_) h
 obtain ⟨F1,⟨hl,G1,G2,_,⟨Fs,k1,k2,_⟩,_,e2⟩,hF⟩:=hH.at hj
 exact (k1 _ _ _ (rd_get h0 h1) (rd_at h0 (by omega)) (by simp [holeG])).wide fun b hb=>hF b (e2 b (k2 _ b hb))
def Res.kg (D:Tg T) (zs:List (T×D.G)):Res:=.kidsG D.ch (zs.map Prod.fst) (zs.map Prod.snd) none
theorem zip_fsG {A B:Type}:∀ zs:List (A×B),(zs.map Prod.fst).zip (zs.map Prod.snd)=zs
 | []=>rfl
 | z::zs=>by simp [zip_fsG zs]
theorem sKg0 {todo:List Item} (D:Tg T) (h:Sim P f n todo fr (.kg D []::H) x X K):Sim P f n todo fr H x X K :=
 Ga (H':=.kg D []::H) (fun {Z F w} hH=>⟨fun _=>False,F,⟨fun _ _=>False,fun k x u hx=>by simp at hx,fun _ _ x=>x,fun _ _ _ x=>x.elim⟩,hH,fun _ x=>x.elim,fun _ x=>x⟩) h
theorem sKg1 {todo:List Item} {D:Tg T} {zs:List (T×D.G)} {R:List Res} (js:List Nat) (y:T) (u:D.G) (hj0:H[0]?=some (.kg D zs)) (hp:S.pk (H.eraseIdx 0) js=some (D.ch y u,R)) (h:Sim P f n todo fr (.kg D ((y,u)::zs)::R) x X K):Sim P f n todo fr H x X K:=by
 refine Ga (fun {Z F w} hH=>?_) h
 obtain ⟨F1,F2,⟨Fs,k1,k2,k3⟩,h2,d1,d2⟩:=hH.take hj0
 obtain ⟨E1,E2,g1,g2,c1,c2⟩:=HAll.pk hp h2
 refine ⟨fun b=>F1 b∨E1 b,E2,⟨fun k=>match k with | 0=>E1 | k+1=>Fs k,fun k x u2 hx hu ho=>?_,fun k b hb=>?_,fun k k' b hb hb'=>?_⟩,g2,fun b hb=>hb.elim (fun y=>⟨(d1 b y).1,fun z=>(d1 b y).2 (c2 b z)⟩) (fun y=>⟨d2 b (c1 b y).1,(c1 b y).2⟩),fun b hb=>d2 b (c2 b hb)⟩
 ·cases k with
  | zero=>simp at hx hu;subst hx hu;exact g1
  | succ k=>simp at hx hu;exact k1 k x u2 (by simpa using hx) (by simpa using hu) (by simp)
 ·cases k with
  | zero=>exact .inr hb
  | succ k=>exact .inl (k2 k b hb)
 ·cases k <;> cases k'
  ·rfl
  ·exact ((d1 b (k2 _ b hb')).2 (c1 b hb).1).elim
  ·exact ((d1 b (k2 _ b hb)).2 (c1 b hb').1).elim
  ·rw [k3 _ _ b hb hb']
theorem Jd (D:Tg T) (h:SimL P f n ops l k fr (.kg D []::H) x X K):SimL P f n ops l k fr H x X K:=fun is hs=>sKg0 D (h is hs)
theorem Gd {D:Tg T} {zs:List (T×D.G)} {R:List Res} (js:List Nat) (y:T) (u:D.G) (hj0:H[0]?=some (.kg D zs)) (hp:S.pk (H.eraseIdx 0) js=some (D.ch y u,R)) (h:SimL P f n ops l k fr (.kg D ((y,u)::zs)::R) x X K):SimL P f n ops l k fr H x X K:=fun is hs=>sKg1 js y u hj0 hp (h is hs)
theorem yc {todo:List Item} (j:Nat) (D:Tg T) (hj:H[j]?=some (.own D.t D.c v ([]:List (T×D.G)))) (h:Sim P f n todo fr (H.set j (.trg D v [] [] none)) x X K):Sim P f n todo fr H x X K :=
 ac (r':=.trg D v [] [] none) j hj (fun Z w F1 h1=>⟨rfl,F1,fun _=>False,h1,⟨fun _ _=>False,fun k x u hx=>by simp at hx,fun _ _ x=>x,fun _ _ _ x=>x.elim⟩,fun b hb=>⟨hb,id⟩,fun _ x=>x.elim⟩) h
theorem md (j:Nat) (D:Tg T) (hj:H[j]?=some (.own D.t D.c v ([]:List (T×D.G)))) (h:SimL P f n ops l k fr (H.set j (.trg D v [] [] none)) x X K):SimL P f n ops l k fr H x X K:=fun is hs=>yc j D hj (h is hs)
theorem sApG {y u:Operand} {zs:List (T×D.G)} {z:Value} {bytes:Nat} (j:Nat) (hj0:H[0]?=some (.kg D zs)) (hj:(H.eraseIdx 0)[j]?=some (.trg D v xs us none)) (ht:P.underlying t=some (.slice D.t)) (hinfo:Info P D.t z D.c.sz bytes) (hzs:z.cells.size=D.c.sz) (hy:arg fr y=some (.sv v)) (hu:arg fr u=some (.fsl D.c zs)) (hb:(xs.length+zs.length)*bytes≤140737488355328) (hb0:Nat.blt 0 bytes=true) (hdn:Nat.blt d n=true)
  (h:∀ v',SimL P f n ops l k ((d,.sv v')::fr) (.trg D v' (xs++zs.map Prod.fst) (us++zs.map Prod.snd) none::(H.eraseIdx 0).eraseIdx j) x X K):SimL P f n ops (⟨some d,.call ⟨.builtin .append,#[y,u],#[t,t]⟩,ty,pos,aft,none⟩::l) k fr H x X K:=by
 intro is hi r hr w0 F0 Z0 w F Z tmps hn hI hf
 obtain ⟨H1,rfl⟩:∃ H1,H = .kg D zs::H1:=by
  cases H with
  | nil=>simp at hj0
  | cons a H1=>simp at hj0;exact ⟨H1,by rw [hj0]⟩
 simp only [List.eraseIdx_cons_zero] at hj h
 have hj':(Res.kg D zs::H1)[j+1]?=some (.trg D v xs us none):=by simpa using hj
 have hl:=trg_at hI.res hj'
 refine Ga (H':=.own D.t D.c v (xs.zip us) :: .kidsG D.ch xs us none::(Res.kg D zs::H1).eraseIdx (j+1)) (fun hH=>trg_part hH hj') (sAp (j:=0) (xs:=xs.zip us) ht hinfo hzs hy rfl hu (by rw [zip_lenG hl];exact hb) hb0 hdn (fun v' is2 hi2=>?_) is hi) r hr w0 F0 Z0 w F Z tmps hn hI hf
 simp only [List.set_cons_zero,List.eraseIdx_cons_succ]
 refine zd (r:=.kidsG D.ch (xs++zs.map Prod.fst) (us++zs.map Prod.snd) none) 1 1 rfl rfl (fun Z w G1 G2 hd ⟨Fs,a1,a2,a3⟩ ⟨Es,b1,b2,b3⟩=>?_) ?_
 ·refine ⟨fun k=>if k<xs.length then Fs k else Es (k-xs.length),fun k q u2 hq hu2 ho=>?_,fun k b hb=>?_,fun k k' b hb hb'=>?_⟩
  ·by_cases hk:k<xs.length
   ·rw [List.getElem?_append_left hk] at hq
    rw [List.getElem?_append_left (by omega)] at hu2
    show HAll (D.ch q u2) Z w (if k<xs.length then Fs k else Es (k-xs.length))
    rw [if_pos hk];exact a1 k q u2 hq hu2 (by simp)
   ·rw [List.getElem?_append_right (by omega)] at hq
    rw [List.getElem?_append_right (by omega),hl] at hu2
    show HAll (D.ch q u2) Z w (if k<xs.length then Fs k else Es (k-xs.length))
    rw [if_neg hk];exact b1 _ q u2 hq hu2 (by simp)
  ·simp only at hb
   split at hb
   ·exact .inl (a2 _ b hb)
   ·exact .inr (b2 _ b hb)
  ·simp only at hb hb'
   split at hb <;> split at hb'
   ·exact a3 _ _ b hb hb'
   ·exact (hd b (a2 _ b hb) (b2 _ b hb')).elim
   ·exact (hd b (a2 _ b hb') (b2 _ b hb)).elim
   ·have:=b3 _ _ b hb hb';omega
 ·have e:xs.zip us++zs=(xs++zs.map Prod.fst).zip (us++zs.map Prod.snd):=by
   rw [List.zip_append hl.symm,zip_fsG]
  simp only [e]
  have hrep:pickR (H1.eraseIdx j) (List.replicate (H1.eraseIdx j).length 0)=H1.eraseIdx j:=by
   induction H1.eraseIdx j with
   | nil=>rfl
   | cons a L ih=>simp only [List.length_cons,List.replicate_succ];show a::pickR L _=_;rw [ih]
  refine sPk (H':=.own D.t D.c v' ((xs++zs.map Prod.fst).zip (us++zs.map Prod.snd)) :: .kidsG D.ch (xs++zs.map Prod.fst) (us++zs.map Prod.snd) none::H1.eraseIdx j) (1::0::List.replicate (H1.eraseIdx j).length 0) ?_ (Ga (fun hH=>trg_meet (o:=none) (by simp [hl]) hH) (h v' is2 hi2))
  show _::_::pickR (H1.eraseIdx j) (List.replicate (H1.eraseIdx j).length 0)=_
  rw [hrep]
theorem zb {T:Type} {c:Co T} (j i:Nat) (e:TypeId) {b:Nat} {az:List AV} (hj:H[j]?=some (.box b az)) (hu:az[i]?=some (.lit (.slice none 0 0))) (h:∀ v,SimL P f n ops l k fr (.own e c v []::H.set j (.box b (az.set i (.sv v)))) x X K):SimL P f n ops l k fr H x X K:=fun is hs=>Pa j i e hj hu fun v=>h v is hs
theorem za {y:Operand} {b o j m:Nat} {aS bs:List AV} (hg:IsAgg P t true) (hs:SizeIs P t m) (hy:arg fr y=some (.lit (.pointer (some ⟨b,o,none⟩)))) (hj:H[j]?=some (.box b aS)) (hm:o+m≤aS.length) (he:(aS.drop o).take m=bs):S.D P n H (.load t y) ty fr (.agg bs):=he ▸ j7 hg hs hy hj hm
theorem y7 {x:Operand} {aS bs:List AV} {k:Nat} (hg:IsAgg P t true) (hs:SizeIs P t k) (hx:arg fr x=some (.fptr aS)) (hk:k≤aS.length) (he:aS.take k=bs):S.D P n H (.load t x) ty fr (.agg bs):=he ▸ J8 hg hs hx hk
theorem lendG {D:Tg T} {v:Value} {xs:List T} {us:List D.G} (j:Nat) (hj:H[j]?=some (.trg D v xs us none)) {Z F:Nat→Prop} {w:World} {u:Value} (hH:HAll H Z w F) (hp:(AV.sv v).p Z w u):(AV.fsl D.q xs).p (fun b=>Z b∨F b) w u:=by
 obtain ⟨F1,g1,hF⟩:=hH.at hj
 rw [hp.1];exact AV.st _ (fun b hb=>hb.imp id (hF b)) (Keep.refl _ _) (trg_fsl g1)
end
end S
namespace S
open Go.RowKit
set_option linter.unusedVariables false
set_option linter.unusedSimpArgs false
set_option linter.unusedSectionVars false
section
variable {P:Program} {f:FuncId} {n:Nat} {ops:Array Oper} {l:List Oper} {k:List Item} {fr:Fr} {H:List Res} {ρ R:Type} {x:Option ρ} {X:ρ→Option R} {K:R→AV→List Res→Prop} {ty t t' e t0:TypeId} {d:Nat} {pos:String} {aft:Array Edge}
variable {T:Type} {D:Tg T} {v:Value} {xs:List T} {us:List D.G} {j:Nat}
end
theorem Y {α:Sort _} {a:α}:a=a:=rfl
theorem dT {p:Prop} [Decidable p] (h:p):decide p=true:=decide_eq_true h
theorem dF {p:Prop} [Decidable p] (h:¬ p):decide p=false:=decide_eq_false h
theorem eF {b:Bool} (h:¬ b=true):b=false:=eq_false_of_ne_true h
section
variable {P:Program} {f:FuncId} {n:Nat} {ops ops0:Array Oper} {l l':List Oper} {k:List Item} {fr fr':Fr} {H:List Res} {ρ R:Type} {x:Option ρ} {X:ρ→Option R} {K:R→AV→List Res→Prop} {ty t t' e t0:TypeId} {d id:Nat} {pos:String} {aft:Array Edge} {b:Code} {y:Operand} {a av:AV} {op:Op} {oj:Oper} {tt bb:Bool} {dj:Nat}
theorem sSR (hl:ops.toList=l) (h:SimL P f n ops l (.code b::k) fr H x X K):Sim P f n (.code (.seq (.region id ops false) b)::k) fr H x X K:=P2 (j6 hl h)
theorem sES (hl:ops.toList=l) (h:SimL P f n ops l (.code b::k) fr H x X K):SimL P f n ops0 [] (.code (.seq (.region id ops false) b)::k) fr H x X K:=j0 (P2 (j6 hl h))
theorem sM (hx:arg fr y=some a) (hdn:Nat.blt d n=true) (h:SimL P f n ops l k ((d,a)::fr) H x X K):SimL P f n ops (⟨some d,.move y,ty,pos,aft,none⟩::l) k fr H x X K:=sQ (dMv hx) hdn h
theorem sA (hx:arg fr y=some a) (hdn:Nat.blt d n=true) (h:SimL P f n ops l k ((d,a)::fr) H x X K):SimL P f n ops (⟨some d,.assign y,ty,pos,aft,none⟩::l) k fr H x X K:=sQ (dAs hx) hdn h
theorem sU (j:Nat) (hj:ops[j]?=some oj) (hdj:oj.dst=some dj) (hl:look fr dj=some (Ab tt)) (ht:tt = !bb) (hjn:Nat.blt dj n=true) (hdn:Nat.blt d n=true) (h:SimL P f n ops l k ((d,.lit undef)::fr) H x X K):SimL P f n ops (⟨some d,op,ty,pos,aft,some (j,bb)⟩::l) k fr H x X K:=sQu hj hdj hl ht hjn hdn h
theorem sG (j:Nat) (hj:ops[j]?=some oj) (hdj:oj.dst=some dj) (hl:look fr dj=some (Ab tt)) (ht:tt=bb) (hjn:Nat.blt dj n=true) (hD:D P n H op ty fr av) (hdn:Nat.blt d n=true) (h:SimL P f n ops l k ((d,av)::fr) H x X K):SimL P f n ops (⟨some d,op,ty,pos,aft,some (j,bb)⟩::l) k fr H x X K:=sQg hj hdj hl ht hjn hD hdn h
theorem QL.m {l1:List Oper} (hx:arg fr y=some av) (hdn:Nat.blt d n=true) (h:QL P n H ops ((d,av)::fr) l fr' l1):QL P n H ops fr (⟨some d,.move y,ty,pos,aft,none⟩::l) fr' l1:=.c (.r (dMv hx)) rfl hdn h
theorem QL.r {l1:List Oper} (hD:D P n H op ty fr av) (hdn:Nat.blt d n=true) (h:QL P n H ops ((d,av)::fr) l fr' l1):QL P n H ops fr (⟨some d,op,ty,pos,aft,none⟩::l) fr' l1:=.c (.r hD) rfl hdn h
theorem QL.g {l1:List Oper} (j:Nat) (hj:ops[j]?=some oj) (hdj:oj.dst=some dj) (hl:look fr dj=some (Ab tt)) (ht:tt=bb) (hjn:Nat.blt dj n=true) (hD:D P n H op ty fr av) (hdn:Nat.blt d n=true) (h:QL P n H ops ((d,av)::fr) l fr' l1):QL P n H ops fr (⟨some d,op,ty,pos,aft,some (j,bb)⟩::l) fr' l1:=.c (.g hj hdj hl ht hjn hD) rfl hdn h
theorem QL.w {l1:List Oper} (j:Nat) (hj:ops[j]?=some oj) (hdj:oj.dst=some dj) (hl:look fr dj=some (Ab tt)) (ht:tt = !bb) (hjn:Nat.blt dj n=true) (hdn:Nat.blt d n=true) (h:QL P n H ops ((d,.lit undef)::fr) l fr' l1):QL P n H ops fr (⟨some d,op,ty,pos,aft,some (j,bb)⟩::l) fr' l1:=.c (.u hj hdj hl ht hjn) rfl hdn h
theorem sLo {c:Code} {id:Nat} {σ γ:Type} {X':σ→Option ρ} (l:Nat→σ→Option σ) (A:σ→γ→Fr) (B:σ→γ→List Res) {s0:σ} (g0:γ) {m:Nat} (h0:∀ s,l 0 s=none) (js:List Nat) (hs:Sub (A s0 g0) fr) (hH:S.dropAll H js=B s0 g0)
  (hx:∀ s g,Sim P f n k (A s g) (B s g) (X' s) X K)
  (body:∀ m s g,(∀ s' g',Sim P f n (.inLoop c :: .inBlock id::k) (A s' g') (B s' g') (l m s') (thenK X' X) K)→(∀ s' g',Sim P f n k (A s' g') (B s' g') (some s') (thenK X' X) K)→Sim P f n (.code c :: .inLoop c :: .inBlock id::k) (A s g) (B s g) (l (m+1) s) (thenK X' X) K) :
  Sim P f n (.code (.block id (.loop c))::k) fr H ((l m s0).bind X') X K:=Pd l A B A B g0 h0 js hs hH hx body
theorem qa {c:Code} {id:Nat} {σ γ:Type} {X':σ→Option ρ} (l:Nat→σ→Option (σ ⊕ ρ)) (A:σ→γ→Fr) (B:σ→γ→List Res) {s0:σ} (g0:γ) {m:Nat} (h0:∀ s,l 0 s=none) (js:List Nat) (hs:Sub (A s0 g0) fr) (hH:S.dropAll H js=B s0 g0)
  (hx:∀ s g,Sim P f n k (A s g) (B s g) (X' s) X K)
  (body:∀ m s g,(∀ s' g',Sim P f n (.inLoop c :: .inBlock id::k) (A s' g') (B s' g') (l m s') (brkK X' X) K)→(∀ s' g',Sim P f n k (A s' g') (B s' g') (some (.inl s')) (brkK X' X) K)→Sim P f n (.code c :: .inLoop c :: .inBlock id::k) (A s g) (B s g) (l (m+1) s) (brkK X' X) K) :
  Sim P f n (.code (.block id (.loop c))::k) fr H (brk (l m s0) X') X K:=Pc l A B A B g0 h0 js hs hH hx body
end
end S
namespace S
open Go.RowKit
set_option linter.unusedVariables false
set_option linter.unusedSimpArgs false
set_option linter.unusedSectionVars false
section
variable {P:Program} {f:FuncId} {n:Nat} {ops:Array Oper} {l:List Oper} {k:List Item} {fr:Fr} {H:List Res} {ρ R:Type} {x:Option ρ} {X:ρ→Option R} {K:R→AV→List Res→Prop} {ty t t' e t0:TypeId} {d:Nat} {pos:String} {aft:Array Edge}
theorem Hands.to {I I' Q:Type} {Hin:List Res} {g:FuncId} {avs:List AV} {y:Option Q} {A:Q→I→AV} {B:Q→I→List Res} {A':Q→I'→AV} {B':Q→I'→List Res} (h:Hands P g avs Hin y A B) (F:Q→I→I') (ha:∀ r i,A r i=A' r (F r i)) (hb:∀ r i (Z:Nat→Prop) (w:World) (F1:Nat→Prop),HAll (B r i) Z w F1→HAll (B' r (F r i)) Z w F1):Hands P g avs Hin y A' B':=by
 intro r hr w F0 Z vs hvs hi
 refine (h r hr w F0 Z vs hvs hi).mono fun e w' ⟨v,he,F',Z',a,H',⟨u,h1,h2⟩,hinv,hp⟩=>?_
 subst h1 h2
 exact ⟨v,he,F',Z',_,_,⟨F r u,rfl,rfl⟩,hinv.less (hb r u _ _ _),ha r u ▸ hp⟩
end
end S
end Go.Proofs.Ytgmnohjaciemmaa

