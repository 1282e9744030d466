import Derived.Maps.AppendAt
import Derived.Laws.StructEq
import Derived.Test.YtokccimmgilciaaRows
import Derived.WalkKit
import Derived.ProofKit
import Derived.OpenShut
import Derived.ShutString
import Derived.ChangeOld
import Derived.Below
import Derived.SizedLaws
import Derived.ReadAgain
import Derived.Deep.Slices
import Derived.Test.YtokccimmgilciaaW0
namespace Go.Proofs.Ytokccimmgilciaa
namespace S
open Go.RowKit
set_option linter.unusedVariables false
set_option linter.unusedSimpArgs false
theorem mx:maxLen=9223372036854775807:=rfl
theorem HAll.give {H:List Res}:∀ {j:Nat} {r r':Res} {Z F:Nat→Prop} {w:World},H[j]?=some r→HAll H Z w F→∃ F1:Nat→Prop,r.h Z w F1∧(∀ b,F1 b→F b) ∧
  ∀ (Z':Nat→Prop),(∀ b,Z b→Z' b)→r'.h Z' w (fun _=>False)→HAll (H.set j r') Z' w (fun b=>F b∧¬ F1 b):=by
 induction H with
 | nil=>intro j r r' Z F w h;simp at h
 | cons a H ih =>
  rintro j r r' Z F w hj ⟨F1,F2,h1,h2,d1,d2⟩
  cases j with
  | zero =>
   simp at hj;subst hj
   exact ⟨F1,h1,fun b hb=>(d1 b hb).1,fun Z' hz hg=>⟨fun _=>False,F2,hg,h2.st hz (fun _ _=>rfl),fun b hb=>hb.elim,fun b hb=>⟨d2 b hb,fun y=>(d1 b y).2 hb⟩⟩⟩
  | succ j =>
   simp at hj
   obtain ⟨E1,e1,ee,hset⟩:=ih (r':=r') hj h2
   refine ⟨E1,e1,fun b hb=>d2 b (ee b hb),fun Z' hz hg=>⟨F1,fun b=>F2 b∧¬ E1 b,a.st hz (fun _ _=>rfl) h1,hset Z' hz hg,fun b hb=>⟨⟨(d1 b hb).1,fun y=>(d1 b hb).2 (ee b y)⟩,fun y=>(d1 b hb).2 y.1⟩,fun b hb=>⟨d2 b hb.1,hb.2⟩⟩⟩
def AV.ep (v:Value) (k:Nat):AV:=⟨fun _ _ u=>∃ a m c,v = .slice (some a) m c∧u = .pointer (some (a.add k)),fun _ _ h=>h⟩
section
variable {P:Program} {f:FuncId} {n:Nat} {ops:Array Oper} {l:List Oper} {k:List Item} {fr:Fr} {H:List Res} {ρ R:Type} {x:Option ρ} {X:ρ→Option R} {K:R→AV→List Res→Prop} {ty t t' e t0:TypeId} {d:Nat} {pos:String} {aft:Array Edge}
variable {T:Type} {c:Co T} {v:Value} {xs:List T} {j:Nat}
theorem wd {y:Operand} (ht:P.underlying t=some (.slice e)) (hy:arg fr y=some (.sv v)) (hj:H[j]?=some (.own t0 c v xs)):D P n H (.call ⟨.builtin .len,#[y],#[t]⟩) ty fr (Ai .i64 xs.length) :=
 .of fun o ho hty w Z F ρ hH hf=>by
  obtain ⟨h1,_⟩:=hf (by simp [Op.operands,Call.operands]) hy
  obtain ⟨F1,h,_⟩:=hH.at hj
  obtain ⟨A,m,e1⟩:=own_sv h
  rw [e1] at h1
  exact ⟨.int .i64 xs.length,by simp [execOp,ho,h1,resolve,invoke,builtin,Builtin.len_,run_underlying ht,goInt,Sem.run_bind],rfl⟩
theorem own_cells {Z F:Nat→Prop} {w:World} (h:(Res.own t0 c v xs).h Z w F) (hn:0<xs.length):∃ g cap cur,v = .slice (some ⟨g,0,none⟩) xs.length cap∧RowAt w g cur t0∧xs.length≤cap∧cap≤maxLen∧cur.size=cap*c.sz∧F g ∧
  Rows c Z w xs (cur.toList.take (xs.length*c.sz)):=by
 obtain ⟨cs,⟨hl,ho⟩,hb,hr⟩ | ⟨rfl,A,rfl⟩:=h
 case inr=>simp at hn
 rcases ho with ⟨hv,hn'⟩ | ⟨g,cap,cur,hv,hg,hh,hcap,hm,hcs,htk⟩
 ·omega
 ·exact ⟨g,cap,cur,hv,hh,hcap,hm,hcs,hb g (by rw [hv];rfl),by rw [htk];exact hr⟩
theorem dIxO {y z:Operand} {kd:IntKind} {i:Int} (ht:P.underlying t=some (.slice e)) (hsz:SizeIs P e c.sz) (hy:arg fr y=some (.sv v)) (hj:H[j]?=some (.own t0 c v xs)) (hz:arg fr z=some (Ai kd i)) (h0:0≤i) (h1:i<xs.length):D P n H (.indexAddr t y z) ty fr (.ep v (i.toNat*c.sz)) :=
 .of fun o ho hty w Z F ρ hH hf=>by
  obtain ⟨e1,_⟩:=hf (by simp [Op.operands]) hy
  have e2:ρ z=_:=hf (by simp [Op.operands]) hz
  obtain ⟨F1,h,_⟩:=hH.at hj
  obtain ⟨g,cap,cur,hv,_⟩:=own_cells h (by omega)
  rw [hv] at e1
  refine ⟨.pointer (some ((⟨g,0,none⟩:Addr).add (i.toNat*c.sz))),?_,_,_,_,hv,rfl⟩
  simp [execOp,ho,e1,e2,Instr.indexAt,run_underlying ht,hsz _,Sem.run_bind,asIntOf,h0,h1]
theorem Wb {y:Operand} {m i off:Nat} (hf':FA P t i off) (hy:arg fr y=some (.ep v m)):D P n H (.fieldAddr t y i) ty fr (.ep v (m+off)) :=
 .of fun o ho hty w Z F ρ _ hf=>by
  obtain ⟨a,q,c',e1,e2⟩:=hf (by simp [Op.operands]) hy
  exact ⟨.pointer (some ((a.add m).add off)),by simp [execOp,ho,e2,hf' _ w,Sem.run_bind],a,q,c',e1,by rw [add_add]⟩
theorem own_at' [Inhabited T] {Z F:Nat→Prop} {w:World} {i:Int} (h:(Res.own t0 c v xs).h Z w F) (h0:0≤i) (h1:i<xs.length):∃ g cap cur vs,v = .slice (some ⟨g,0,none⟩) xs.length cap∧RowAt w g cur t0∧xs.length≤cap∧cap≤maxLen∧cur.size=cap*c.sz∧F g∧AllP Z w (c.e (rd xs i)) vs∧vs.length=c.sz ∧
  (∀ j u,vs[j]?=some u→cur[i.toNat*c.sz+j]?=some u)∧i.toNat*c.sz+c.sz≤xs.length*c.sz:=by
 obtain ⟨g,cap,cur,hv,hh,hcap,hm,hcs,hF,hr⟩:=own_cells h (by omega)
 obtain ⟨vs,h2,h3⟩:=hr i.toNat _ (rd_get h0 h1)
 refine ⟨g,cap,cur,vs,hv,hh,hcap,hm,hcs,hF,h2,by rw [← h2.length,c.len],fun j u hu=>?_,?_⟩
 ·have:=h3 j u hu
  rw [List.getElem?_take] at this
  split at this
  ·simpa using this
  ·cases this
 ·rw [← Nat.succ_mul];exact Nat.mul_le_mul_right _ (by omega)
theorem take_splice {α:Type} (L us:List α) (a N:Nat) (h:a+us.length≤N) (hN:N≤L.length):(L.take a++us++L.drop (a+us.length)).take N=(L.take N).take a++us++(L.take N).drop (a+us.length):=by
 apply List.ext_getElem?
 intro i
 simp only [List.getElem?_take,List.getElem?_append,List.getElem?_drop,List.length_append,List.length_take]
 have e1:min a L.length=a:=by omega
 have e2:min a (min N L.length)=a:=by omega
 simp only [e1,e2]
 by_cases h1:i<a
 ·have:i<N:=by omega
  have:i<a+us.length:=by omega
  simp [*]
 ·by_cases h2:i<a+us.length
  ·have:i<N:=by omega
   simp [*]
  ·by_cases h3:i<N
   ·have:a+us.length+(i-(a+us.length))<N:=by omega
    simp [*]
   ·have:¬ (a+us.length+(i-(a+us.length))<N):=by omega
    simp [*]
theorem sStO [Inhabited T] {y u:Operand} {m off q:Nat} {bs:List AV} {a:AV} (i:Int) (x':T) (hs:SizeIs P t q) (hy:arg fr y=some (.ep v m)) (hj:H[j]?=some (.own t0 c v xs)) (hm:m=i.toNat*c.sz+off) (h0:0≤i) (h1:i<xs.length) (hu:arg fr u=some a) (hc:CellsOf a bs) (ho1:OneL bs) (hq:bs.length=q) (hql:off+q≤c.sz)
  (hx':c.e x'=splice (c.e (rd xs i)) off bs) (h:SimL P f n ops l k fr (H.set j (.own t0 c v (xs.set i.toNat x'))) x X K):SimL P f n ops (⟨none,.store t y u,ty,pos,aft,none⟩::l) k fr H x X K:=by
 refine Lc (fun o ho w0 F0 Z0 w F Z ρ hi hf=>?_) h
 obtain ⟨ad,q',c',e1,e2⟩:=hf (by simp [Op.operands]) hy
 have hp:=hf (by simp [Op.operands]) hu
 have hcs:=hc _ _ _ hp
 have l1:=hcs.length
 obtain ⟨F1,hown,_⟩:=hi.res.at hj
 obtain ⟨g,cap,cur,vs,hv,⟨fz,hh,hfz⟩,hcap,hmx,hsz,hF,h2,h4,h3,hle⟩:=own_at' hown h0 h1
 rw [hv] at e1;simp at e1
 obtain ⟨rfl,_,_⟩:=e1
 have hcapsz:xs.length*c.sz≤cap*c.sz:=Nat.mul_le_mul_right _ hcap
 have e2':ρ y = .pointer (some ⟨g,m,none⟩):=by rw [e2,Addr.add_lit,Nat.zero_add]
 have hh':w.heap[g]?=some (.cells cur.toList.toArray t0 fz):=by simpa using hh
 have hlen:cur.toList.length=cap*c.sz:=by simpa using hsz
 have hr:=store_row (P:=P) (t:=t) (b:=g) (o:=m) (v:=ρ u) (us:=(ρ u).cells.toList) (vs:=cur.toList) (w:=w) hs rfl (by omega) hh' (by simpa using hfz) (by omega) (hcs.oneL ho1)
 obtain ⟨F',hi',hk⟩:=hi.turn (w':=w.setRow g (cur.toList.take m++(ρ u).cells.toList++cur.toList.drop (m+(ρ u).cells.toList.length)).toArray) (r':=.own t0 c v (xs.set i.toNat x')) hj fun F1 hown' hz1=>by
  obtain ⟨cs,⟨hl,hor⟩,hb,hrows⟩ | ⟨rfl,A,rfl⟩:=hown'
  case inr=>simp at h1;omega
  rcases hor with ⟨hv',hn'⟩ | ⟨g',cap',cur',hv',hg',⟨fz2,hh2,hfz2⟩,hcap',hm',hcs',htk⟩
  ·omega
  ·rw [hv] at hv';simp at hv'
   obtain ⟨rfl,rfl⟩:=hv'
   rw [hh] at hh2;cases hh2
   have hF1:F1 g:=hb g (by rw [hv];rfl)
   have s:=Step.setRow w g (cur.toList.take m++(ρ u).cells.toList++cur.toList.drop (m+(ρ u).cells.toList.length)).toArray F1 hF1
   have hkz:Keep Z w (w.setRow g (cur.toList.take m++(ρ u).cells.toList++cur.toList.drop (m+(ρ u).cells.toList.length)).toArray):=fun b hz=>s.keep b (hz1 b hz).1 (hz1 b hz).2
   refine ⟨F1,s,.inl ⟨cs.take m++(ρ u).cells.toList++cs.drop (m+(ρ u).cells.toList.length),⟨?_,.inr ⟨g,cap,_,by simpa using hv,Nat.zero_le _,⟨fz,setRow_heap w g cur _ t0 _ hh,?_⟩,by simpa using hcap,hm',?_,?_⟩⟩,hb,?_⟩,fun _ x=>.inl x⟩
   ·simp only [List.length_append,List.length_take,List.length_drop,List.length_set];omega
   ·have:(cur.toList.take m++(ρ u).cells.toList++cur.toList.drop (m+(ρ u).cells.toList.length)).toArray.size=cur.size:=by
     simp only [List.size_toArray,List.length_append,List.length_take,List.length_drop];omega
    rw [this];exact hfz
   ·simp only [List.size_toArray,List.length_append,List.length_take,List.length_drop];omega
   ·simp only [List.length_set]
    rw [← htk]
    exact take_splice cur.toList _ m (xs.length*c.sz) (by omega) (by omega)
   ·intro r z hr
    rw [List.getElem?_set] at hr
    by_cases hri:i.toNat=r
    ·subst hri
     have hlt:i.toNat<xs.length:=by omega
     simp [hlt] at hr;subst hr
     obtain ⟨vs0,g1,g2⟩:=hrows i.toNat _ (rd_get h0 h1)
     have hl0:vs0.length=c.sz:=by rw [← g1.length,c.len]
     refine ⟨_,by rw [hx'];exact (g1.splice hcs off).st (fun _ x=>x) hkz,fun q2 z2 hz2=>?_⟩
     rw [List.getElem?_append,List.getElem?_append] at hz2 ⊢
     simp only [List.length_append,List.length_take] at hz2 ⊢
     have hmc:min m cs.length=m:=by omega
     have hov:min off vs0.length=off:=by omega
     rw [hmc];rw [hov] at hz2
     by_cases q1:q2<off
     ·have a1:q2<off+(ρ u).cells.toList.length:=by omega
      have a2:i.toNat*c.sz+q2<m+(ρ u).cells.toList.length:=by omega
      have a3:i.toNat*c.sz+q2<m:=by omega
      rw [if_pos a1,if_pos q1,List.getElem?_take,if_pos q1] at hz2
      rw [if_pos a2,if_pos a3,List.getElem?_take,if_pos a3]
      exact g2 q2 z2 hz2
     ·by_cases q3:q2<off+(ρ u).cells.toList.length
      ·have a2:i.toNat*c.sz+q2<m+(ρ u).cells.toList.length:=by omega
       have a3:¬ i.toNat*c.sz+q2<m:=by omega
       rw [if_pos q3,if_neg q1] at hz2
       rw [if_pos a2,if_neg a3,← hz2];congr 1;omega
      ·have a2:¬ i.toNat*c.sz+q2<m+(ρ u).cells.toList.length:=by omega
       rw [if_neg q3,List.getElem?_drop] at hz2
       rw [if_neg a2,List.getElem?_drop]
       have:=g2 _ z2 hz2
       rw [← this];congr 1;omega
    ·rw [if_neg hri] at hr
     obtain ⟨vs0,g1,g2⟩:=hrows r z hr
     have hl0:vs0.length=c.sz:=by rw [← g1.length,c.len]
     refine ⟨vs0,g1.st (fun _ x=>x) hkz,fun q2 z2 hz2=>?_⟩
     have hq2:q2<c.sz:=by
      rcases Nat.lt_or_ge q2 vs0.length with h | h
      ·omega
      ·simp [h] at hz2
     have hg:=g2 q2 z2 hz2
     have hmc:min m cs.length=m:=by omega
     rw [List.getElem?_append,List.getElem?_append]
     simp only [List.length_append,List.length_take,hmc]
     rcases Nat.lt_or_ge r i.toNat with hlt | hge
     ·have:r*c.sz+c.sz≤i.toNat*c.sz:=by rw [← Nat.succ_mul];exact Nat.mul_le_mul_right _ hlt
      have a2:r*c.sz+q2<m+(ρ u).cells.toList.length:=by omega
      have a3:r*c.sz+q2<m:=by omega
      rw [if_pos a2,if_pos a3,List.getElem?_take,if_pos a3];exact hg
     ·have:i.toNat*c.sz+c.sz≤r*c.sz:=by rw [← Nat.succ_mul];exact Nat.mul_le_mul_right _ (by omega)
      have a2:¬ r*c.sz+q2<m+(ρ u).cells.toList.length:=by omega
      rw [if_neg a2,List.getElem?_drop,← hg];congr 1;omega
 exact ⟨_,F',Z,by simp [execOp,ho,e2',hr,Sem.run_bind],hi',fun _ x=>x,hk⟩
theorem sFz {todo:List Item} (j:Nat) {xs:List T} (hj:H[j]?=some (.own t0 c v xs)) (h:Sim P f n todo fr (H.set j (.fz c v xs)) x X K):Sim P f n todo fr H x X K:=by
 intro r hr w0 F0 Z0 w F Z tmps hn hi hf
 obtain ⟨F1,h1,hF,hset⟩:=HAll.give (r':=.fz c v xs) hj hi.res
 have hzz:∀ b,Z b→Z b∨F1 b:=fun _ x=>.inl x
 refine h r hr w0 F0 Z0 w (fun b=>F b∧¬ F1 b) (fun b=>Z b∨F1 b) tmps hn ?_ (hf.st hzz (Keep.refl _ _))
 exact hi.step (F1:=fun _=>False) (Step.refl _ _) (fun _ x=>x.elim) hzz (fun b x=>x.imp id fun y=>.inl (hF b y)) (fun b hb=>⟨.inl hb.1,fun x=>x.elim (hi.fin b hb.1).2.2 hb.2⟩) (hset _ hzz (own_fsl h1))
theorem gc (j:Nat) {xs:List T} (hj:H[j]?=some (.own t0 c v xs)) (h:SimL P f n ops l k fr (H.set j (.fz c v xs)) x X K):SimL P f n ops l k fr H x X K:=fun is hs=>sFz j hj (h is hs)
theorem sUp {todo:List Item} (u j:Nat) {xs:List T} (hu:look fr u=some (.sv v)) (hj:H[j]?=some (.fz c v xs)) (h:Sim P f n todo ((u,.fsl c xs)::fr) H x X K):Sim P f n todo fr H x X K:=by
 intro r hr w0 F0 Z0 w F Z tmps hn hi hf
 obtain ⟨F1,h1,_⟩:=hi.res.at hj
 refine h r hr w0 F0 Z0 w F Z tmps hn hi fun t a ht=>?_
 simp only [look] at ht
 by_cases e:u=t
 ·subst e;simp at ht;subst ht
  have h2:(AV.sv v).p Z w (tmps.getD u undef):=hf u _ hu
  rw [h2.1];exact h1
 ·have:(u == t)=false:=by simpa using e
  rw [this] at ht;exact hf t a (by simpa using ht)
theorem tc (u j:Nat) {xs:List T} (hu:look fr u=some (.sv v)) (hj:H[j]?=some (.fz c v xs)) (h:SimL P f n ops l k ((u,.fsl c xs)::fr) H x X K):SimL P f n ops l k fr H x X K:=fun is hs=>sUp u j hu hj (h is hs)
theorem AllP.imp {Z:Nat→Prop} {w:World} {aS:List AV} {vs:List Value} (h:AllP Z w aS vs) {i:Nat} {a b:AV} (hi:aS[i]?=some a) (hab:∀ u,a.p Z w u→b.p Z w u):AllP Z w (aS.set i b) vs:=by
 induction h generalizing i with
 | nil=>simp at hi
 | cons h h' ih=>cases i with
  | zero=>simp at hi;subst hi;exact .cons (hab _ h) h'
  | succ i=>exact .cons h (ih (by simpa using hi))
theorem fc {todo:List Item} (b i j:Nat) {xs:List T} {aS:List AV} {g:Nat} (hb:H[b]?=some (.box g aS)) (hu:aS[i]?=some (.sv v)) (hj:H[j]?=some (.fz c v xs)) (h:Sim P f n todo fr (H.set b (.box g (aS.set i (.fsl c xs)))) x X K):Sim P f n todo fr H x X K:=by
 intro r hr w0 F0 Z0 w F Z tmps hn hi hf
 obtain ⟨F1,h1,_⟩:=hi.res.at hj
 obtain ⟨F',hi',_⟩:=hi.turn (w':=w) (r':=.box g (aS.set i (.fsl c xs))) hb fun G1 ⟨hg,vs,t',e1,e2⟩ _=>⟨G1,Step.refl _ _,⟨hg,vs,t',e1,e2.imp hu fun u hu=>by rw [hu.1];exact h1⟩,fun _ x=>.inl x⟩
 exact h r hr w0 F0 Z0 w F' Z tmps hn hi' hf
theorem cd (b i j:Nat) {xs:List T} {aS:List AV} {g:Nat} (hb:H[b]?=some (.box g aS)) (hu:aS[i]?=some (.sv v)) (hj:H[j]?=some (.fz c v xs)) (h:SimL P f n ops l k fr (H.set b (.box g (aS.set i (.fsl c xs)))) x X K):SimL P f n ops l k fr H x X K:=fun is hs=>fc b i j hb hu hj (h is hs)
def Info (P:Program) (e:TypeId) (z:Value) (sz bytes:Nat):Prop:=(P.info? e).map (fun i=>(i.zero,i.size,i.bytes))=some (some z,sz,bytes)
theorem Info.parts {e:TypeId} {z:Value} {sz bytes:Nat} (h:Info P e z sz bytes):∃ i,P.info? e=some i∧i.zero=some z∧i.size=sz∧i.bytes=bytes:=by
 unfold Info at h
 cases hi:P.info? e with
 | none=>simp [hi] at h
 | some i=>simp [hi] at h;exact ⟨i,rfl,h.1,h.2.1,h.2.2⟩
theorem sMk {y:Operand} {kd:IntKind} {m:Int} {z:Value} {bytes:Nat} (z0:T) (ht:P.underlying t=some (.slice e)) (hi:Info P e z c.sz bytes) (hz:∀ Z w,AllP Z w (c.e z0) z.cells.toList) (hy:arg fr y=some (Ai kd m)) (h0:0≤m) (hb:(bytes:Int)*m≤281474976710656) (hb0:Nat.blt 0 bytes=true) (hdn:Nat.blt d n=true)
  (h:∀ v,SimL P f n ops l k ((d,.sv v)::fr) (.own e c v (List.replicate m.toNat z0)::H) x X K):SimL P f n ops (⟨some d,.makeSlice t y y,ty,pos,aft,none⟩::l) k fr H x X K:=by
 refine Qb (I:=Value) (fun o ho hty w0 F0 Z0 w F Z ρ hinv hf=>?_) hdn h
 have e1:ρ y=_:=hf (by simp [Op.operands]) hy
 obtain ⟨i,i1,i2,i3,i4⟩:=hi.parts
 obtain ⟨m',rfl⟩:=Int.eq_ofNat_of_zero_le h0
 have hb0':0<bytes:=by simpa [Nat.blt_eq] using hb0
 have hle:m'≤281474976710656:=by
  have:(m':Int)≤bytes*m':=by
   have:(1:Int)*m'≤bytes*m':=Int.mul_le_mul_of_nonneg_right (by omega) (by omega)
   omega
  omega
 have hr:=run_make (P:=P) w t e i z ht i1 i2 kd kd m' m' (by omega) (Int.le_refl _) (by rw [i4];exact hb) (by omega)
 simp only [Int.toNat_natCast,i3] at hr
 have hzl:=(hz (fun _=>False) w).length
 rw [c.len] at hzl
 refine ⟨.slice (some ⟨w.heap.size,0,none⟩) m' m',w.alloc (.cells (madeCells z.cells (m'*c.sz)) e),.slice (some ⟨w.heap.size,0,none⟩) m' m',_,Z,by simp [execOp,ho,e1,hr,Sem.run_bind],hinv.push _ (.own e c (.slice (some ⟨w.heap.size,0,none⟩) m' m') (List.replicate (m':Int).toNat z0)) ?_,fun _ x=>x,(Step.alloc w _ _).keep' hinv,rfl,_,_,_,rfl⟩
 simp only [Int.toNat_natCast]
 refine .inl ⟨(madeCells z.cells (m'*c.sz)).toList,⟨?_,.inr ⟨w.heap.size,m',madeCells z.cells (m'*c.sz),by simp,Nat.zero_le _,.new (heap_alloc_new w _),by simp,by rw [mx];omega,size_madeCells _ _,?_⟩⟩,fun b hb=>?_,?_⟩
 ·simp [size_madeCells]
 ·rw [List.length_replicate,List.take_of_length_le (by simp [size_madeCells])]
 ·simp [Value.ownBlock] at hb;exact hb.symm
 ·intro r q hq
  rw [List.getElem?_replicate] at hq
  split at hq
  ·rename_i hlt
   cases hq
   refine ⟨_,hz _ _,fun a u hu=>?_⟩
   have ha:a<z.cells.size:=by
    rcases Nat.lt_or_ge a z.cells.size with h | h
    ·exact h
    ·simp [h] at hu
   have hsz:z.cells.size=c.sz:=by simpa using hzl.symm
   have hlt2:r*c.sz+a<m'*c.sz:=by
    have:r*c.sz+c.sz≤m'*c.sz:=by rw [← Nat.succ_mul];exact Nat.mul_le_mul_right _ hlt
    omega
   have hmod:(r*c.sz+a) % z.cells.size=a:=by rw [hsz,Nat.mul_comm,Nat.mul_add_mod];exact Nat.mod_eq_of_lt (by omega)
   simp only [madeCells,Array.toList_map,List.getElem?_map,Array.toList_range,List.getElem?_range hlt2,Option.map_some,hmod]
   rw [Array.getElem?_toList] at hu
   rw [getElem!_pos z.cells a ha,← hu,Array.getElem?_eq_getElem ha]
  ·cases hq
def Cells (c:Co T) (Z:Nat→Prop) (w:World) (u:Value) (ys:List T):Prop:=∃ A m,u = .slice A ys.length m∧(A=none→ys=[])∧∀ a,A=some a→∃ news,news.length=ys.length*c.sz∧(∀ j z,news[j]?=some z→w.cell? (a.add j)=some z)∧Rows c Z w ys news∧∀ z ∈ news,z.oneCell'=true
theorem cells_fsl {Z:Nat→Prop} {w:World} {u:Value} {ys:List T} (h:(AV.fsl c ys).p Z w u):Cells c Z w u ys:=by
 obtain ⟨A,m,e1,hm,hel⟩:=h
 refine ⟨A,m,e1,fun hA=>?_,fun a hA=>?_⟩
 ·cases ys with
  | nil=>rfl
  | cons y ys=>obtain ⟨a,ha,_⟩:=hel 0 y rfl;rw [hA] at ha;cases ha
 ·subst hA
  have key:∀ r,r≤ys.length→∃ news:List Value,news.length=r*c.sz∧(∀ j z,news[j]?=some z→w.cell? (a.add j)=some z)∧Rows c Z w (ys.take r) news∧∀ z ∈ news,z.oneCell'=true:=by
   intro r
   induction r with
   | zero=>intro _;exact ⟨[],by simp,by simp,by intro i x hx;simp at hx,by simp⟩
   | succ r ih =>
    intro hr
    obtain ⟨news,g1,g2,g3,g4⟩:=ih (by omega)
    have hlt:r<ys.length:=by omega
    obtain ⟨a',ha,hb,vs,k1,k2⟩:=hel r ys[r] (by simp [hlt])
    cases ha
    have hvs:vs.length=c.sz:=by rw [← k1.length,c.len]
    refine ⟨news++vs,by simp [g1,hvs,Nat.succ_mul],fun q z hq=>?_,fun i x hx=>?_,fun z hz=>?_⟩
    ·rw [List.getElem?_append] at hq
     split at hq
     ·exact g2 q z hq
     ·have:=k2 _ z hq;rw [add_add] at this;rw [← this];congr 1;congr 1;omega
    ·rw [List.getElem?_take] at hx
     split at hx
     ·rename_i hi
      by_cases e:i=r
      ·subst e
       have hx':x=ys[i]:=by simpa [hlt] using hx.symm
       subst hx'
       refine ⟨vs,k1,fun q z hq=>?_⟩
       rw [List.getElem?_append_right (by omega),← hq];congr 1;omega
      ·obtain ⟨us,m1,m2⟩:=g3 i x (by rw [List.getElem?_take,if_pos (by omega)];exact hx)
       refine ⟨us,m1,fun q z hq=>?_⟩
       have:=m2 q z hq
       rw [List.getElem?_append_left (by
        rcases Nat.lt_or_ge (i*c.sz+q) news.length with h | h
        ·exact h
        ·simp [h] at this)]
       exact this
     ·cases hx
    ·rcases List.mem_append.1 hz with hz | hz
     ·exact g4 z hz
     ·exact k1.oneL (c.one _) z hz
  have:=key ys.length (Nat.le_refl _)
  simpa using this
theorem rows_append {Z:Nat→Prop} {w:World} {xs ys:List T} {cs ds:List Value} (h:Rows c Z w xs cs) (h':Rows c Z w ys ds) (hl:cs.length=xs.length*c.sz):Rows c Z w (xs++ys) (cs++ds):=by
 intro i x hx
 rw [List.getElem?_append] at hx
 split at hx
 ·obtain ⟨vs,g1,g2⟩:=h i x hx
  refine ⟨vs,g1,fun q z hq=>?_⟩
  have:=g2 q z hq
  rw [List.getElem?_append_left (by
   rcases Nat.lt_or_ge (i*c.sz+q) cs.length with h | h
   ·exact h
   ·simp [h] at this)]
  exact this
 ·rename_i hi
  obtain ⟨vs,g1,g2⟩:=h' _ x hx
  refine ⟨vs,g1,fun q z hq=>?_⟩
  have:=g2 q z hq
  have hm:xs.length*c.sz≤i*c.sz:=Nat.mul_le_mul_right _ (by omega)
  have hs:(i-xs.length)*c.sz=i*c.sz-xs.length*c.sz:=Nat.sub_mul _ _ _
  rw [List.getElem?_append_right (by omega),← this];congr 1;omega
theorem append_empty {w:World} {i:TypeInfo} {z:Value} {sz bytes:Nat} {B a:Addr} {m:Nat} {u:Value} {ys:List T} {news:List Value} (ht:P.underlying t=some (.slice e)) (i1:P.info? e=some i) (i2:i.zero=some z) (i3:i.size=sz) (i4:i.bytes=bytes) (hy:ys≠[]) (hb:ys.length*bytes≤140737488355328) (g1:news.length=ys.length*sz) (g2:∀ j v,news[j]?=some v→w.cell? (a.add j)=some v) (hu:u = .slice (some a) ys.length m) (hb0:0<bytes) :
  (Builtin.append_ #[t,t] ty #[.slice (some B) 0 0,u]).run P w=(Builtin.append_ #[t,t] ty #[.slice none 0 0,u]).run P w:=by
 subst hu i3 i4
 have hl:0<ys.length:=List.length_pos_iff.2 hy
 have hle:ys.length*1≤ys.length*i.bytes:=Nat.mul_le_mul_left _ hb0
 rw [run_append_grow (P:=P) w t ty e i z ht i1 i2 B 0 0 [] (by simp) (by simp) a ys.length m news g1 g2 (by omega) (by omega) (growslice_fits (by omega) (by simpa using hb))]
 rw [run_append_nil (P:=P) w t ty e i z ht i1 i2 a ys.length m news g1 g2 (by omega) (by omega) (by omega)]
 simp
theorem run_append_row (w:World) (t ty e:TypeId) (i:TypeInfo) (z:Value) (size bytes:Nat) (ht:P.underlying t=some (.slice e)) (hi:P.info? e=some i) (hz:i.zero=some z)
  (hsize:i.size=size) (hby:i.bytes=bytes) (hzs:z.cells.size=size) (hsz:0<size) (v:Value) (n:Nat) (xs:List Value) (hown:rowOwn w e size v n xs)
  (a:Addr) (m c:Nat) (news:List Value) (hl:news.length=m*size) (hnews:∀ j u,news[j]?=some u→w.cell? (a.add j)=some u) (h1:∀ u ∈ news,u.oneCell'=true)
  (h63:n+m≤maxLen) (hbytes:(n+m)*bytes≤140737488355328) :
  ∃ v' w',(Builtin.append_ #[t,t] ty #[v,.slice (some a) m c]).run P w = .ok v' w'∧rowOwn w' e size v' (n+m) (xs++news)∧w.grownBy w' v.ownBlock∧(v'.ownBlock=v.ownBlock∨v'.ownBlock=some w.heap.size):=by
 have hlen:(xs++news).length=(n+m)*size:=by rw [List.length_append,hown.1,hl,Nat.add_mul]
 have plain:w.ownsRow 0 e size v n xs→∃ v' w',(Builtin.append_ #[t,t] ty #[v,.slice (some a) m c]).run P w = .ok v' w'∧rowOwn w' e size v' (n+m) (xs++news)∧w.grownBy w' v.ownBlock∧(v'.ownBlock=v.ownBlock∨v'.ownBlock=some w.heap.size):=fun h=>by
  obtain ⟨v',w',r1,r2,r3,_,r5⟩:=run_append_own_at (P:=P) w 0 t ty e i z size bytes ht hi hz hsize hby hzs hsz v n xs h a m c news hl hnews h1 h63 hbytes (Nat.zero_le _)
  exact ⟨v',w',r1,rowOwn_of r2,r3,r5⟩
 rcases hown.2 with ⟨rfl,rfl⟩ | ⟨g,cap,cur,rfl,hbg,⟨fz,hg,hfz⟩,hnc,hcm,hcs,htake⟩
 ·exact plain ⟨hown.1,.inl ⟨rfl,rfl⟩⟩
 ·rcases hfz with rfl | hfz
  ·exact plain ⟨hown.1,.inr ⟨g,cap,cur,rfl,hbg,hg,hnc,hcm,hcs,htake⟩⟩
  have hsmall:n+m≤9223372036854775807:=by simp only [maxLen] at h63;omega
  subst hsize hby
  by_cases hroom:n+m≤cap
  ·have hfit:n*i.size+news.length≤cur.size:=by rw [hl,hcs,← Nat.add_mul];exact Nat.mul_le_mul_right _ hroom
   have hf:=run_firstCells_some (P:=P) w i.size m a m c news hl hnews
   have hst:=run_storeCells_fz (P:=P) g (n*i.size) e fz news 0 cur w hg (.inr hfz) (by simpa using hfit) h1
   simp only [Nat.add_zero] at hst
   have hr:(Builtin.append_ #[t,t] ty #[.slice (some ⟨g,0,none⟩) n cap,.slice (some a) m c]).run P w =
     .ok (.slice (some ⟨g,0,none⟩) (n+m) cap) (w.setRow g (cur.toList.take (n*i.size)++news++cur.toList.drop (n*i.size+news.length)).toArray):=by
    simp [Builtin.append_,run_underlying ht,sizeOf,typeInfo,hi,Builtin.lenOf,hroom,hf,Addr.add_lit,hst]
   have hsame:(cur.toList.take (n*i.size)++news++cur.toList.drop (n*i.size+news.length)).toArray.size=cur.size:=by
    simp only [List.size_toArray,List.length_append,List.length_take,List.length_drop,Array.length_toList];omega
   refine ⟨_,_,hr,⟨hlen,.inr ⟨g,cap,_,rfl,hbg,⟨fz,setRow_heap w g cur _ e _ hg,by rw [hsame];exact .inr hfz⟩,hroom,hcm,by rw [hsame];exact hcs,?_⟩⟩,⟨rfl,rfl,rfl,by simp,fun k _ hk=>setRow_other w g k _ (fun e=>hk (by simp [Value.ownBlock,e]))⟩,Or.inl rfl⟩
   rw [htake,← hlen]
   exact List.take_left
  ·have holds:∀ j u,xs[j]?=some u→w.cell? ((⟨g,0,none⟩:Addr).add j)=some u:=by
    intro j u hu
    rw [Addr.add_lit,cell_of_row w g _ cur e fz hg]
    rw [← htake,List.getElem?_take] at hu
    split at hu
    ·simpa using hu
    ·cases hu
   have hr:=run_append_grow (P:=P) w t ty e i z ht hi hz ⟨g,0,none⟩ n cap xs hown.1 holds a m c news hl hnews (by omega) (by omega) (growslice_fits (by omega) hbytes)
   have hge:=grownCap_ge w (n+m) cap e
   have hcm:=grownCap_le_maxLen w (n+m) cap e h63
   refine ⟨_,_,hr,⟨hlen,.inr ⟨w.heap.size,_,_,rfl,Nat.zero_le _,.new (heap_alloc_new w.drew _),hge,hcm,?_,?_⟩⟩,⟨rfl,rfl,rfl,by simp,fun k hk _=>Below.heap_alloc w.drew _ k hk⟩,Or.inr rfl⟩
   ·simp only [Array.size_append,List.size_toArray,size_zeroCells,hzs,hown.1,hl,← Nat.add_mul]
    congr 1
    omega
   ·simp only [Array.toList_append,List.append_assoc]
    rw [← List.append_assoc,← hlen]
    exact List.take_left
theorem append_own {w0 w:World} {F0 Z0 F Z:Nat→Prop} {u:Value} {ys:List T} {z:Value} {bytes:Nat} (hi:Inv w0 w F0 Z0 F Z H) (ht:P.underlying t=some (.slice e)) (hinfo:Info P e z c.sz bytes) (hzs:z.cells.size=c.sz) (hj:H[j]?=some (.own e c v xs)) (hc:Cells c Z w u ys) (hb:(xs.length+ys.length)*bytes≤140737488355328) (hb0:0<bytes) :
  ∃ v' w' F',(Builtin.append_ #[t,t] ty #[v,u]).run P w = .ok v' w'∧Inv w0 w' F0 Z0 F' Z (H.set j (.own e c v' (xs++ys)))∧Keep Z w w'∧∃ A n m,v' = .slice A n m:=by
 obtain ⟨i,i1,i2,i3,i4⟩:=hinfo.parts
 obtain ⟨A,m,hu,hA,hA'⟩:=hc
 obtain ⟨F1,hown,hF1⟩:=hi.res.at hj
 obtain ⟨A1,m1,hv1⟩:=own_sv hown
 cases A with
 | none =>
  have hys:=hA rfl
  subst hys hu
  obtain ⟨F',hi',hk⟩:=hi.turn (w':=w) (r':=.own e c v (xs++[])) hj fun G1 h1 _=>⟨G1,Step.refl _ _,by rw [List.append_nil];exact h1,fun _ x=>.inl x⟩
  refine ⟨v,w,F',?_,hi',hk,A1,_,m1,hv1⟩
  obtain ⟨cs,hr,_,_⟩ | ⟨rfl,A,rfl⟩:=hown
  case inr=>cases A <;> simp [Builtin.append_,run_underlying ht,sizeOf,typeInfo,i1,Builtin.lenOf,Builtin.firstCells,storeCells]
  rcases hr.2 with ⟨rfl,hn⟩ | ⟨g,cap,cur,rfl,_,_,hnc,_⟩
  ·simp [Builtin.append_,run_underlying ht,sizeOf,typeInfo,i1,Builtin.lenOf,Builtin.firstCells]
  ·simp [Builtin.append_,run_underlying ht,sizeOf,typeInfo,i1,Builtin.lenOf,Builtin.firstCells,hnc,storeCells]
 | some a =>
  obtain ⟨news,g1,g2,g3,g4⟩:=hA' a rfl
  have hle:(xs.length+ys.length)*1≤(xs.length+ys.length)*bytes:=Nat.mul_le_mul_left _ hb0
  by_cases hz0:ys=[]∧∃ B,v = .slice B 0 0
  ·obtain ⟨rfl,B,rfl⟩:=hz0
   obtain ⟨F',hi',hk⟩:=hi.turn (w':=w) (r':=.own e c (.slice B 0 0) (xs++[])) hj fun G1 h1 _=>⟨G1,Step.refl _ _,by rw [List.append_nil];exact h1,fun _ x=>.inl x⟩
   refine ⟨_,w,F',?_,hi',hk,_,_,_,rfl⟩
   subst hu
   have hn0:news=[]:=List.eq_nil_of_length_eq_zero (by simpa using g1)
   cases B <;> simp [Builtin.append_,run_underlying ht,sizeOf,typeInfo,i1,Builtin.lenOf,Builtin.firstCells,storeCells,loadCells,loadCellsFrom]
  have hv0:∃ v0 cs,rowOwn w e c.sz v0 xs.length cs∧Rows c Z w xs cs∧(∀ G1,(Res.own e c v xs).h Z w G1→∀ b,v0.ownBlock=some b→G1 b)∧(Builtin.append_ #[t,t] ty #[v,u]).run P w=(Builtin.append_ #[t,t] ty #[v0,u]).run P w:=by
   obtain ⟨cs,hr,hbk,hrows⟩ | ⟨rfl,B,rfl⟩:=hown
   ·by_cases h0:∃ B,v = .slice B 0 0
    ·obtain ⟨B,rfl⟩:=h0
     rcases hr.2 with ⟨hv,hn⟩ | ⟨g,cap,cur,hv,_,_,hnc,_⟩
     ·simp at hv;subst hv
      exact ⟨_,cs,hr,hrows,fun G1 _ b hb=>by simp [Value.ownBlock] at hb,rfl⟩
     ·simp at hv
      obtain ⟨rfl,hv2,rfl⟩:=hv
      have hx:xs=[]:=List.eq_nil_of_length_eq_zero hv2.symm
      subst hx
      have hc0:cs=[]:=List.eq_nil_of_length_eq_zero (by simpa using hr.1)
      subst hc0
      refine ⟨.slice none 0 0,[],⟨by simp,.inl ⟨rfl,rfl⟩⟩,hrows,fun G1 _ b hb=>by simp [Value.ownBlock] at hb,?_⟩
      exact append_empty ht i1 i2 i3 i4 (by intro h;subst h;exact hz0 ⟨rfl,_,rfl⟩) (by simpa using hb) g1 g2 hu hb0
    ·refine ⟨v,cs,hr,hrows,fun G1 hg b hb=>?_,rfl⟩
     obtain ⟨_,_,hbk',_⟩ | ⟨_,B,hB⟩:=hg
     ·exact hbk' b hb
     ·exact (h0 ⟨B,hB⟩).elim
   ·refine ⟨.slice none 0 0,[],⟨by simp,.inl ⟨rfl,rfl⟩⟩,by intro i x hx;simp at hx,fun G1 _ b hb=>by simp [Value.ownBlock] at hb,?_⟩
    cases B with
    | none=>rfl
    | some B=>exact append_empty ht i1 i2 i3 i4 (by intro h;subst h;exact hz0 ⟨rfl,_,rfl⟩) (by simpa using hb) g1 g2 hu hb0
  obtain ⟨v0,cs,hr,hrows,hbk,hrun⟩:=hv0
  obtain ⟨v',w',r1,r2,r3,r5⟩:=run_append_row (P:=P) w t ty e i z c.sz bytes ht i1 i2 i3 i4 hzs c.pos v0 xs.length cs hr a ys.length m news g1 g2 g4 (by rw [mx];omega) hb
  rw [← hu,← hrun] at r1
  obtain ⟨F',hi',hk⟩:=hi.turn (w':=w') (r':=.own e c v' (xs++ys)) hj fun G1 hown' hz1=>by
   have hbk':=hbk G1 hown'
   have s:=Step.of_grown r3 (run_drawn _ r1) G1 hbk'
   have hkz:Keep Z w w':=fun b hz=>s.keep b (hz1 b hz).1 (hz1 b hz).2
   refine ⟨fun b=>G1 b∨(w.heap.size≤b∧b<w'.heap.size),s,.inl ⟨cs++news,by rw [List.length_append];exact r2,fun b hb=>?_,(rows_append hrows g3 hr.1).st (fun _ x=>x) hkz⟩,fun _ x=>x⟩
   rcases r5 with e5 | e5
   ·exact .inl (hbk' b (e5 ▸ hb))
   ·rw [e5] at hb;cases hb
    refine .inr ⟨Nat.le_refl _,?_⟩
    rcases r2.2 with ⟨hv,_⟩ | ⟨g,cap,cur,hv,_,hh,_⟩
    ·rw [hv] at e5;cases e5
    ·rw [hv] at e5;simp [Value.ownBlock] at e5;subst e5
     obtain ⟨fz,hh,_⟩:=hh
     exact (Array.getElem?_eq_some_iff.1 hh).1
  refine ⟨v',w',F',r1,hi',hk,?_⟩
  rcases r2.2 with ⟨hv,_⟩ | ⟨g,cap,cur,hv,_⟩
  ·exact ⟨_,_,_,hv⟩
  ·exact ⟨_,_,_,hv⟩
theorem sAp {y u:Operand} {ys:List T} {z:Value} {bytes:Nat} (ht:P.underlying t=some (.slice e)) (hinfo:Info P e z c.sz bytes) (hzs:z.cells.size=c.sz) (hy:arg fr y=some (.sv v)) (hj:H[j]?=some (.own e c v xs)) (hu:arg fr u=some (.fsl c ys)) (hb:(xs.length+ys.length)*bytes≤140737488355328) (hb0:Nat.blt 0 bytes=true) (hdn:Nat.blt d n=true)
  (h:∀ v',SimL P f n ops l k ((d,.sv v')::fr) (H.set j (.own e c v' (xs++ys))) x X K):SimL P f n ops (⟨some d,.call ⟨.builtin .append,#[y,u],#[t,t]⟩,ty,pos,aft,none⟩::l) k fr H x X K:=by
 refine Qb (I:=Value) (fun o ho hty w0 F0 Z0 w F Z ρ hinv hf=>?_) hdn h
 obtain ⟨e1,_⟩:=hf (by simp [Op.operands,Call.operands]) hy
 have e2:=cells_fsl (hf (by simp [Op.operands,Call.operands]) hu)
 obtain ⟨v',w',F',hr,hi',hk,hsl⟩:=append_own (ty:=ty) hinv ht hinfo hzs hj e2 hb (by simpa [Nat.blt_eq] using hb0)
 exact ⟨v',w',v',F',Z,by simp [execOp,ho,hty,e1,hr,resolve,invoke,builtin,Sem.run_bind],hi',fun _ x=>x,hk,rfl,hsl⟩
theorem pb {todo:List Item} (u:Nat) (e:TypeId) (c:Co T) (hu:look fr u=some (.lit (.slice none 0 0))) (h:∀ v,Sim P f n todo ((u,.sv v)::fr) (.own e c v []::H) x X K):Sim P f n todo fr H x X K:=by
 intro r hr w0 F0 Z0 w F Z tmps hn hi hf
 refine h (.slice none 0 0) r hr w0 F0 Z0 w F Z tmps hn ?_ fun t a ht=>?_
 ·refine ⟨hi.base,hi.z0,hi.zin,hi.fin,fun _=>False,F,.inr ⟨rfl,none,rfl⟩,hi.res,fun b hb=>hb.elim,fun b hb=>hb⟩
 ·simp only [look] at ht
  by_cases e:u=t
  ·subst e;simp at ht;subst ht
   exact ⟨hf u _ hu,_,_,_,rfl⟩
  ·have:(u == t)=false:=by simpa using e
   rw [this] at ht;exact hf t a (by simpa using ht)
def AV.es:AV:=⟨fun _ _ v=>∃ A,v = .slice A 0 0,fun _ _ h=>h⟩
theorem sEs {todo:List Item} (u:Nat) (e:TypeId) (c:Co T) (hu:look fr u=some .es) (h:∀ v,Sim P f n todo ((u,.sv v)::fr) (.own e c v []::H) x X K):Sim P f n todo fr H x X K:=by
 intro r hr w0 F0 Z0 w F Z tmps hn hi hf
 obtain ⟨A,hA⟩:=hf u _ hu
 refine h (.slice A 0 0) r hr w0 F0 Z0 w F Z tmps hn ?_ fun t a ht=>?_
 ·refine ⟨hi.base,hi.z0,hi.zin,hi.fin,fun _=>False,F,.inr ⟨rfl,A,rfl⟩,hi.res,fun b hb=>hb.elim,fun b hb=>hb⟩
 ·simp only [look] at ht
  by_cases e:u=t
  ·subst e;simp at ht;subst ht
   exact ⟨hA,_,_,_,rfl⟩
  ·have:(u == t)=false:=by simpa using e
   rw [this] at ht;exact hf t a (by simpa using ht)
theorem sEsL (u:Nat) (e:TypeId) (c:Co T) (hu:look fr u=some .es) (h:∀ v,SimL P f n ops l k ((u,.sv v)::fr) (.own e c v []::H) x X K):SimL P f n ops l k fr H x X K:=fun is hs=>sEs u e c hu fun v=>h v is hs
def sl (xs:List T) (a b:Int):List T:=(xs.take b.toNat).drop a.toNat
end
end S
namespace S
open Go.RowKit
set_option linter.unusedVariables false
set_option linter.unusedSimpArgs false
def Ent (P:Program) (g:FuncId):Prop:=∀ args w,(callFunc g args).run P w = .ok (.enter g args) w
def Flat (a:AV):Prop:=∀ Z w Z' w' v,a.p Z w v→a.p Z' w' v
theorem flLit {v:Value}:Flat (.lit v):=fun _ _ _ _ _ h=>h
def FlatL:List AV→Prop
 | []=>True
 | a::aS=>Flat a∧FlatL aS
theorem flL {aS:List AV} (h:FlatL aS) {Z w Z' w'} {vs:List Value} (hv:AllP Z w aS vs):AllP Z' w' aS vs:=by
 induction hv with
 | nil=>exact .nil
 | cons h1 _ ih=>exact .cons (h.1 _ _ _ _ _ h1) (ih h.2)
section
variable {P:Program} {f:FuncId} {n:Nat} {ops:Array Oper} {l:List Oper} {k:List Item} {fr:Fr} {H:List Res} {ρ R:Type} {x:Option ρ} {X:ρ→Option R} {K:R→AV→List Res→Prop} {ty t t' e:TypeId} {d:Nat} {pos:String} {aft:Array Edge}
inductive Args (fr:Fr) (H:List Res):List Operand→List AV→Prop
 | nil:Args fr H [] []
 | s {x:Operand} {a:AV} {xs:List Operand} {aS:List AV}:arg fr x=some a→Args fr H xs aS→Args fr H (x::xs) (a::aS)
 | o {T:Type} {x:Operand} {t:TypeId} {c:Co T} {v:Value} {ys:List T} {xs:List Operand} {aS:List AV} (j:Nat):arg fr x=some (.sv v)→H[j]?=some (.own t c v ys)→Args fr H xs aS→Args fr H (x::xs) (.fsl c ys::aS)
 | z {T:Type} {x:Operand} {c:Co T} {v:Value} {ys:List T} {xs:List Operand} {aS:List AV} (j:Nat):arg fr x=some (.sv v)→H[j]?=some (.fz c v ys)→Args fr H xs aS→Args fr H (x::xs) (.fsl c ys::aS)
 | b {x:Operand} {b:Nat} {cs:List AV} {xs:List Operand} {aS:List AV} (j:Nat):arg fr x=some (.lit (.pointer (some ⟨b,0,none⟩)))→H[j]?=some (.box b cs)→Args fr H xs aS→Args fr H (x::xs) (.fptr cs::aS)
 | n {T:Type} {x:Operand} (c:Co T) {xs:List Operand} {aS:List AV}:arg fr x=some (.lit (.slice none 0 0))→Args fr H xs aS→Args fr H (x::xs) (.fsl c []::aS)
 | g {x:Operand} {a0 a:AV} {xs:List Operand} {aS:List AV}:arg fr x=some a0→(∀ {Z F:Nat→Prop} {w:World} {u:Value},HAll H Z w F→a0.p Z w u→a.p (fun b=>Z b∨F b) w u)→Args fr H xs aS→Args fr H (x::xs) (a::aS)
theorem nil_fsl {T:Type} (c:Co T) (Z:Nat→Prop) (w:World):(AV.fsl c ([]:List T)).p Z w (.slice none 0 0):=⟨none,0,rfl,by simp,by intro i x hx;simp at hx⟩
theorem args_ok {xs:List Operand} {aS:List AV} (h:Args fr H xs aS) {Z F:Nat→Prop} {w:World} {ρ:Operand→Value} (hH:HAll H Z w F) (hf:∀ {x:Operand} {a:AV},x ∈ xs→arg fr x=some a→a.p Z w (ρ x)):AllP (fun b=>Z b∨F b) w aS (xs.map ρ):=by
 have hzz:∀ b,Z b→Z b∨F b:=fun _ x=>.inl x
 induction h with
 | nil=>exact .nil
 | s hx _ ih=>exact .cons (AV.st _ hzz (Keep.refl _ _) (hf (by simp) hx)) (ih fun hm hx=>hf (by simp [hm]) hx)
 | o j hx hj _ ih =>
  refine .cons ?_ (ih fun hm hx=>hf (by simp [hm]) hx)
  obtain ⟨e1,_⟩:=hf (by simp) hx
  obtain ⟨F1,h1,hF⟩:=hH.at hj
  rw [e1]
  exact AV.st _ (fun b hb=>hb.imp id (hF b)) (Keep.refl _ _) (own_fsl h1)
 | z j hx hj _ ih =>
  refine .cons ?_ (ih fun hm hx=>hf (by simp [hm]) hx)
  obtain ⟨e1,_⟩:=hf (by simp) hx
  obtain ⟨F1,h1,hF⟩:=hH.at hj
  rw [e1]
  exact AV.st _ hzz (Keep.refl _ _) h1
 | b j hx hj _ ih =>
  refine .cons ?_ (ih fun hm hx=>hf (by simp [hm]) hx)
  have e1:ρ _=_:=hf (by simp) hx
  obtain ⟨F1,⟨hb,vs,t',h1,h2⟩,hF⟩:=hH.at hj
  rw [e1]
  exact ⟨_,rfl,.inr (hF _ hb),vs,h2.st hzz (Keep.refl _ _),fun i u hu=>by rw [Addr.add_lit,cell_of_row _ _ _ _ _ _ h1];simpa using hu⟩
 | n c hx _ ih =>
  refine .cons ?_ (ih fun hm hx=>hf (by simp [hm]) hx)
  have e1:ρ _=_:=hf (by simp) hx
  rw [e1];exact nil_fsl c _ _
 | g hx hg _ ih=>exact .cons (hg hH (hf (by simp) hx)) (ih fun hm hx=>hf (by simp [hm]) hx)
theorem call_run {o:Oper} {g:FuncId} {args:Array Operand} {ts:Array TypeId} {w:World} {ρ:Operand→Value} (hρ:∀ f,ρ (.func f) = .func (.func f) #[] #[]) (ho:o.op = .call ⟨.value (.func g),args,ts⟩) (hg:Ent P g):(execOp ρ o).run P w = .ok (.enter g (args.toList.map ρ).toArray) w:=by
 have:=hg (args.map ρ) w
 simp only [execOp,ho,resolve,hρ,Deferred.ofValue,invoke,Sem.run_bind,Sem.run_pure,Result.andThen_ok,Array.append_empty,this,Array.empty_append]
 congr 2
 apply Array.ext'
 simp
inductive ArgsS (fr:Fr):List Operand→List AV→Prop
 | nil:ArgsS fr [] []
 | s {x:Operand} {a:AV} {xs:List Operand} {aS:List AV}:arg fr x=some a→ArgsS fr xs aS→ArgsS fr (x::xs) (a::aS)
 | n {T:Type} {x:Operand} (c:Co T) {xs:List Operand} {aS:List AV}:arg fr x=some (.lit (.slice none 0 0))→ArgsS fr xs aS→ArgsS fr (x::xs) (.fsl c []::aS)
theorem argsS_ok {xs:List Operand} {aS:List AV} (h:ArgsS fr xs aS) {Z:Nat→Prop} {w:World} {ρ:Operand→Value} (hf:∀ {x:Operand} {a:AV},x ∈ xs→arg fr x=some a→a.p Z w (ρ x)):AllP Z w aS (xs.map ρ):=by
 induction h with
 | nil=>exact .nil
 | s hx _ ih=>exact .cons (hf (by simp) hx) (ih fun hm hx=>hf (by simp [hm]) hx)
 | n c hx _ ih =>
  refine .cons ?_ (ih fun hm hx=>hf (by simp [hm]) hx)
  have e1:ρ _=_:=hf (by simp) hx
  rw [e1];exact nil_fsl c _ _
theorem inv_enter {w0 w:World} {F0 Z0 F Z:Nat→Prop} (h:Inv w0 w F0 Z0 F Z H):Inv w w (fun _=>False) Z (fun _=>False) Z [] :=
 ⟨Base.refl _ _,fun _ x=>x,fun b hb=>⟨(h.zin b hb).1,.inl hb⟩,fun _ x=>x.elim,trivial⟩
theorem j4 {g:FuncId} {args:Array Operand} {ts:Array TypeId} {avs:List AV} {Q:Type} {y:Option Q} {en:Q→AV} {r:Q} (hg:Ent P g) (hp:Pure P g avs y en) (hy:y=some r) (ha:ArgsS fr args.toList avs):D P n H (.call ⟨.value (.func g),args,ts⟩) ty fr (en r):=by
 intro o ho hty w0 F0 Z0 w F Z tmps hn hi hf
 have hargs:=argsS_ok (ρ:=(⟨tmps,[]⟩:Act).eval) ha fun {x a} hm hx=>arg_ok hf hx (by simp [Op.operands,Call.operands];exact .inr (by simpa using hm))
 refine .inr ⟨g,_,w,_,call_run (fun _=>rfl) ho hg,hp r hy w (fun _=>False) Z _ hargs (inv_enter hi),?_⟩
 rintro e w'' ⟨v,rfl,F',Z',av,H',⟨rfl,rfl⟩,hinv,hv⟩
 refine ⟨v,rfl,Z',hinv.z0,fun b hb=>?_,⟨hinv.base.os,hinv.base.tape,hinv.base.output,hinv.base.drawn,hinv.base.size,fun b hb _=>hinv.base.keep b hb id⟩,hv⟩
 have:=hinv.zin b hb
 exact this.2.elim .inl fun y=>y.elim (fun z=>z.elim) fun z=>.inr ⟨z,this.1⟩
theorem qc {g:FuncId} {args:Array Operand} {ts:Array TypeId} {avs:List AV} {Q:Type} {y:Option Q} {en:Q→AV} {r:Q} (hg:Ent P g) (hp:Pure P g avs y en) (hy:y=some r) (hfl:Flat (en r)) (ha:Args fr H args.toList avs):D P n H (.call ⟨.value (.func g),args,ts⟩) ty fr (en r):=by
 intro o ho hty w0 F0 Z0 w F Z tmps hn hi hf
 have hargs:=args_ok (ρ:=(⟨tmps,[]⟩:Act).eval) ha hi.res fun {x a} hm hx=>arg_ok hf hx (by simp [Op.operands,Call.operands];exact .inr (by simpa using hm))
 refine .inr ⟨g,_,w,_,call_run (fun _=>rfl) ho hg,hp r hy w (fun _=>False) (fun b=>Z b∨F b) _ hargs ⟨Base.refl _ _,fun _ x=>x,fun b hb=>⟨hb.elim (fun x=>(hi.zin b x).1) (fun x=>(hi.fin b x).1),.inl hb⟩,fun _ x=>x.elim,trivial⟩,?_⟩
 rintro e w'' ⟨v,rfl,F',Z',av,H',⟨rfl,rfl⟩,hinv,hv⟩
 exact ⟨v,rfl,Z,fun _ x=>x,fun _ x=>.inl x,⟨hinv.base.os,hinv.base.tape,hinv.base.output,hinv.base.drawn,hinv.base.size,fun b hb _=>hinv.base.keep b hb id⟩,hfl _ _ _ _ _ hv⟩
theorem HAll.append {H':List Res} {Z F F':Nat→Prop} {w:World} (h:HAll H Z w F) (h':HAll H' Z w F') (hd:∀ b,F b→¬ F' b):HAll (H++H') Z w (fun b=>F b∨F' b):=by
 induction H generalizing F with
 | nil=>exact h'.wide fun _ x=>.inr x
 | cons r rs ih =>
  obtain ⟨F1,F2,h1,h2,d1,d2⟩:=h
  refine ⟨F1,fun b=>F2 b∨F' b,h1,ih h2 (fun b hb=>hd b (d2 b hb)),fun b hb=>⟨.inl (d1 b hb).1,fun y=>y.elim (d1 b hb).2 (hd b (d1 b hb).1)⟩,fun b hb=>hb.imp (d2 b) id⟩
theorem Pure.of {g:FuncId} {avs:List AV} {Q:Type} {y:Option Q} {en:Q→AV} (h:∀ r,y=some r→Spec P g avs [] fun a H=>a=en r∧H=[]):Pure P g avs y en:=h
def rvRun (rv:ResultVar) (tmps:Array Value):Sem Value:=match rv with
 | .tmp t=>pure (tmps.getD t undef)
 | .cell a t=>do loadVar t (← asAddr (tmps.getD a undef))
theorem results1 {fn:Func} {r1:ResultVar} (h:fn.results=#[r1]) {tmps:Array Value} {w:World} {v1:Value} (h1:(rvRun r1 tmps).run P w = .ok v1 w):(results fn tmps).run P w = .ok v1 w:=by
 have:results fn tmps=(do let vs ← (#[r1]:Array ResultVar).mapM (fun rv=>rvRun rv tmps);pure (if h:vs.size=1 then vs[0] else .tuple vs)):=by rw [← h];rfl
 rw [this];simp [h1,Sem.run_bind,go_sem]
theorem results2 {fn:Func} {r1 r2:ResultVar} (h:fn.results=#[r1,r2]) {tmps:Array Value} {w:World} {v1 v2:Value} (h1:(rvRun r1 tmps).run P w = .ok v1 w) (h2:(rvRun r2 tmps).run P w = .ok v2 w):(results fn tmps).run P w = .ok (.tuple #[v1,v2]) w:=by
 have:results fn tmps=(do let vs ← (#[r1,r2]:Array ResultVar).mapM (fun rv=>rvRun rv tmps);pure (if h:vs.size=1 then vs[0] else .tuple vs)):=by rw [← h];rfl
 rw [this];simp [h1,h2,Sem.run_bind,go_sem]
theorem results3 {fn:Func} {r1 r2 r3:ResultVar} (h:fn.results=#[r1,r2,r3]) {tmps:Array Value} {w:World} {v1 v2 v3:Value} (h1:(rvRun r1 tmps).run P w = .ok v1 w) (h2:(rvRun r2 tmps).run P w = .ok v2 w) (h3:(rvRun r3 tmps).run P w = .ok v3 w):(results fn tmps).run P w = .ok (.tuple #[v1,v2,v3]) w:=by
 have:results fn tmps=(do let vs ← (#[r1,r2,r3]:Array ResultVar).mapM (fun rv=>rvRun rv tmps);pure (if h:vs.size=1 then vs[0] else .tuple vs)):=by rw [← h];rfl
 rw [this];simp [h1,h2,h3,Sem.run_bind,go_sem]
theorem results0 {fn:Func} (h:fn.results=#[]) {tmps:Array Value} {w:World}:(results fn tmps).run P w = .ok (.tuple #[]) w:=by
 simp [results,h,go_sem]
def RetA (P:Program) (fr:Fr) (H:List Res) (rv:ResultVar) (a:AV):Prop:=∀ (Z F:Nat→Prop) (w:World) (tmps:Array Value),HAll H Z w F→FrOk fr Z w tmps→∃ v,(rvRun rv tmps).run P w = .ok v w∧a.p Z w v
theorem rT {u:Nat} {a:AV} (hu:look fr u=some a):RetA P fr H (.tmp u) a:=fun Z F w tmps _ hf=>⟨_,rfl,hf u a hu⟩
theorem rC {u b j m:Nat} {aS:List AV} (hg:IsAgg P t true) (hs:SizeIs P t m) (hu:look fr u=some (.lit (.pointer (some ⟨b,0,none⟩)))) (hj:H[j]?=some (.box b aS)) (hm:aS.length=m):RetA P fr H (.cell u t) (.agg aS):=fun Z F w tmps hH hf=>by
 obtain ⟨F1,⟨hb,vs,t',h1,h2⟩,_⟩:=hH.at hj
 have e1:tmps.getD u undef=_:=hf u _ hu
 have hl:=h2.length
 have:=load_agg (P:=P) (t:=t) (a:=⟨b,0,none⟩) (vs:=vs) (w:=w) hg hs (by omega) (fun i u hu=>by rw [Addr.add_lit,cell_of_row _ _ _ _ _ _ h1];simpa using hu)
 refine ⟨.agg vs.toArray,?_,vs,rfl,h2⟩
 simp only [Instr.loadAt,Instr.sureAddr,Sem.run_bind,Sem.run_pure,Result.andThen_ok] at this
 simp only [rvRun,e1,asAddr,Sem.run_bind,Sem.run_pure,Result.andThen_ok,this]
theorem Q2 (js:List Nat) {fn:Func} {r1:ResultVar} {a:AV} {q:R} (hf:P.funcs[f]?=some fn) (hr:fn.results=#[r1]) (h1:RetA P fr H r1 a) (hK:K q a (S.dropAll H js)):Sim P f n (.code .ret::k) fr H (some q) some K:=by
 intro r hq w0 F0 Z0 w F Z tmps hn hi hfr
 cases hq
 obtain ⟨v1,e1,p1⟩:=h1 Z F w tmps hi.res hfr
 exact .ret hf (results1 hr e1) ⟨F,Z,a,_,hK,hi.less (·.dropAll js),p1⟩
theorem k7 (js:List Nat) {fn:Func} {r1 r2:ResultVar} {a b:AV} {q:R} (hf:P.funcs[f]?=some fn) (hr:fn.results=#[r1,r2]) (h1:RetA P fr H r1 a) (h2:RetA P fr H r2 b) (hK:K q (.tup [a,b]) (S.dropAll H js)):Sim P f n (.code .ret::k) fr H (some q) some K:=by
 intro r hq w0 F0 Z0 w F Z tmps hn hi hfr
 cases hq
 obtain ⟨v1,e1,p1⟩:=h1 Z F w tmps hi.res hfr
 obtain ⟨v2,e2,p2⟩:=h2 Z F w tmps hi.res hfr
 exact .ret hf (results2 hr e1 e2) ⟨F,Z,_,_,hK,hi.less (·.dropAll js),[v1,v2],rfl,.cons p1 (.cons p2 .nil)⟩
theorem md (js:List Nat) {fn:Func} {q:R} (hf:P.funcs[f]?=some fn) (hr:fn.results=#[]) (hK:K q .any (S.dropAll H js)):Sim P f n (.code .ret::k) fr H (some q) some K:=by
 intro r hq w0 F0 Z0 w F Z tmps hn hi hfr
 cases hq
 exact .ret hf (results0 hr) ⟨F,Z,_,_,hK,hi.less (·.dropAll js),trivial⟩
theorem jc {fn:Func} {q:R} (hf:P.funcs[f]?=some fn) (hr:fn.results=#[]) (hK:K q .any H):Sim P f n [] fr H (some q) some K:=by
 intro r hq w0 F0 Z0 w F Z tmps hn hi hfr
 cases hq
 exact .fin hf (results0 hr) ⟨F,Z,_,H,hK,hi,trivial⟩
inductive Parts (fr:Fr) (pl:Nat→Option (Nat×Nat)):List AV→List (Nat×Operand)→List AV→Prop
 | nil {aS:List AV}:Parts fr pl aS [] aS
 | c {aS bs cs:List AV} {i off sz:Nat} {x:Operand} {a:AV} {ps:List (Nat×Operand)}:pl i=some (off,sz)→arg fr x=some a→CellsOf a bs→bs.length=sz→Nat.ble (off+sz) aS.length=true→Parts fr pl (splice aS off bs) ps cs→Parts fr pl aS ((i,x)::ps) cs
theorem foldl_splice (vs us:List Value) (o:Nat) (h:o+us.length≤vs.length):(us.toArray.zipIdx.foldl (fun (cs:Array Value) (x:Value×Nat)=>cs.setIfInBounds (o+x.2) x.1) vs.toArray)=(vs.take o++us++vs.drop (o+us.length)).toArray:=by
 have key:∀ (us:List Value) (i:Nat) (vs:List Value),o+i+us.length≤vs.length→(us.zipIdx i).foldl (fun (cs:Array Value) (x:Value×Nat)=>cs.setIfInBounds (o+x.2) x.1) vs.toArray=(vs.take (o+i)++us++vs.drop (o+i+us.length)).toArray:=by
  intro us
  induction us with
  | nil=>intro i vs h;simp
  | cons u us ih =>
   intro i vs h
   simp only [List.zipIdx_cons,List.foldl_cons,List.setIfInBounds_toArray]
   rw [ih (i+1) (vs.set (o+i) u) (by simp at h ⊢;omega)]
   congr 1
   apply List.ext_getElem?
   intro q
   simp only [List.length_cons] at h ⊢
   simp only [List.getElem?_append,List.getElem?_take,List.getElem?_drop,List.length_append,List.length_take,List.length_set,List.getElem?_set]
   have e1:min (o+(i+1)) vs.length=o+i+1:=by omega
   have e2:min (o+i) vs.length=o+i:=by omega
   simp only [e1,e2]
   by_cases h1:q<o+i
   ·have a1:q<o+i+1+us.length:=by omega
    have a2:q<o+i+1:=by omega
    have a3:q<o+i+(us.length+1):=by omega
    have a4:q<o+(i+1):=by omega
    have a5:¬ o+i=q:=by omega
    simp [*]
   ·by_cases h2:q=o+i
    ·subst h2
     have a1:o+i<o+i+1+us.length:=by omega
     have a2:o+i<o+(i+1):=by omega
     have a3:o+i<vs.length:=by omega
     simp [*]
    ·by_cases h3:q<o+i+1+us.length
     ·have a1:¬ q<o+i+1:=by omega
      have a2:q<o+i+(us.length+1):=by omega
      have a3:q-(o+i)=(q-(o+i+1))+1:=by omega
      simp only [List.length_cons,h3,a1,a2,if_true,if_false,h1,a3,List.getElem?_cons_succ]
     ·have a2:¬ q<o+i+(us.length+1):=by omega
      have a3:¬ o+i=o+(i+1)+us.length+(q-(o+i+1+us.length)):=by omega
      have a4:o+(i+1)+us.length+(q-(o+i+1+us.length))=o+i+(us.length+1)+(q-(o+i+(us.length+1))):=by omega
      have a5:¬ o+i=o+i+(us.length+1)+(q-(o+i+(us.length+1))):=by omega
      simp [h3,a2,a4,a5]
 have:=key us 0 vs (by omega)
 rw [← Array.foldl_toList]
 simpa using this
theorem fill_parts {pl:Nat→Option (Nat×Nat)} {aS cs:List AV} {ps:List (Nat×Operand)} (h:Parts fr pl aS ps cs) {Z:Nat→Prop} {w:World} {ρ:Operand→Value} (hf:∀ {x:Operand} {a:AV},x ∈ ps.map (·.2)→arg fr x=some a→a.p Z w (ρ x)) :
  ∀ vs,AllP Z w aS vs→∃ us,Instr.fill pl vs.toArray (ps.map fun p=>(p.1,ρ p.2))=some us.toArray∧AllP Z w cs us:=by
 induction h with
 | nil=>exact fun vs hv=>⟨vs,rfl,hv⟩
 | @c aS bs cs i off sz x a ps hpl hx hc hl hle _ ih =>
  intro vs hv
  have hcs:=hc _ _ _ (hf (by simp) hx)
  have l1:=hcs.length
  have l2:=hv.length
  have hle':off+sz≤aS.length:=by simpa [Nat.ble_eq] using hle
  have hsz:(ρ x).cells.size=sz:=by rw [← hl,l1];simp
  obtain ⟨us,h1,h2⟩:=ih (fun hm hx=>hf (by simp at hm ⊢;exact .inr hm) hx) _ (hv.splice hcs off)
  refine ⟨us,?_,h2⟩
  have hfd:=foldl_splice vs (ρ x).cells.toList off (by simp;omega)
  simp only [Array.toArray_toList] at hfd
  have hge:¬ (off+sz > vs.length):=by omega
  simp only [List.map_cons,Instr.fill,hpl,hsz,ne_eq,not_true_eq_false,List.size_toArray,hge,or_self,if_false]
  exact (congrArg (fun z=>Instr.fill pl z _) hfd).trans h1
theorem G5 {zs:List Value} {az cs:List AV} {ps:Array (Nat×Operand)} {fs:Array Field} {pls:Array (Nat×Nat)} (ht:P.underlying t=some (.struct fs)) (hz:∀ w,(zeroValue t).run P w = .ok (.agg zs.toArray) w) (hm:∀ w,(fs.mapM (m:=Sem) fun f=>do pure (f.offset,← sizeOf f.type)).run P w = .ok pls w)
  (ha:∀ Z w,AllP Z w az zs) (hp:Parts fr (fun i=>pls[i]?) az ps.toList cs):D P n H (.build t ps) ty fr (.agg cs) :=
 .of fun o ho hty w Z F ρ _ hf=>by
  obtain ⟨us,h1,h2⟩:=fill_parts hp (ρ:=ρ) (Z:=Z) (w:=w) (fun {x a} hmem hx=>hf (by simp [Op.operands];simpa using hmem) hx) zs (ha Z w)
  refine ⟨.agg us.toArray,?_,us,rfl,h2⟩
  have hps:(ps.map fun p=>(p.1,ρ p.2)).toList=ps.toList.map fun p=>(p.1,ρ p.2):=by simp
  have h1':Instr.fill (fun i=>pls[i]?) zs.toArray (ps.map fun p=>(p.1,ρ p.2)).toList=some us.toArray:=by rw [hps];exact h1
  simp only [execOp,ho,Instr.build,Sem.run_bind,hz w,Result.andThen_ok,Sem.run_pure,run_underlying ht,hm w,Value.cells]
  have h1'':Instr.fill (fun x=>pls[x]?) zs.toArray (Array.map (fun x=>match x with | (i,x)=>(i,ρ x)) ps).toList=some us.toArray:=h1'
  simp only [h1'',Sem.run_pure,Result.andThen_ok]
end
end S
namespace S
open Go.RowKit
set_option linter.unusedVariables false
set_option linter.unusedSimpArgs false
def edgesOn (o:Oper):List Nat:=(o.after.toList.filter (Region.binds .any)).map (·.on)
inductive Lin (ops:Array Oper):List Nat→List Nat→Prop
 | nil {S:List Nat}:(∀ i,i<ops.size→i ∈ S)→Lin ops S []
 | cons {S is:List Nat} {i:Nat} {o:Oper}:ops[i]?=some o→i ∉ S→(∀ e ∈ edgesOn o,e ∈ S)→Lin ops (i::S) is→Lin ops S (i::is)
def backOk (ops:Array Oper):Bool:=(List.range ops.size).all fun i=>match ops[i]? with
 | some o=>(edgesOn o).all fun e=>Nat.blt e i
 | none=>true
theorem all_lt (p:Nat→Bool) (n:Nat):(List.range n).all p=true↔∀ i,i<n→p i=true:=by simp [List.all_eq_true]
def cnt (L:Array Bool):Nat:=(L.toList.filter (! ·)).length
theorem cnt_set (L:Array Bool) (i:Nat) (hi:L[i]?=some false):cnt (L.setIfInBounds i true)+1=cnt L:=by
 unfold cnt
 rw [Array.toList_setIfInBounds]
 have hi':L.toList[i]?=some false:=by simpa using hi
 generalize L.toList=M at hi'
 clear hi
 induction M generalizing i with
 | nil=>simp at hi'
 | cons b M ih =>
  cases i with
  | zero=>simp at hi';subst hi';simp
  | succ i =>
   simp only [List.set_cons_succ,List.filter_cons]
   have:=ih i (by simpa using hi')
   cases b <;> simp at this ⊢ <;> omega
theorem lin_go (ops:Array Oper) (hb:backOk ops=true):∀ (fuel t:Nat) (L:Array Bool) (acc S:List Nat),L.size=ops.size→cnt L≤fuel→(∀ i,i ∈ S↔L[i]?=some true)→∃ is,Region.linearise.go .any ops fuel t L acc=acc.reverse++is∧Lin ops S is:=by
 intro fuel
 induction fuel with
 | zero =>
  intro t L acc S hL hc hS
  refine ⟨[],by simp [Region.linearise.go],.nil fun i hi=>?_⟩
  rw [hS]
  cases hLi:L[i]? with
  | none=>rw [Array.getElem?_eq_none_iff] at hLi;omega
  | some b =>
   cases b with
   | true=>rfl
   | false=>have:=cnt_set L i hLi;omega
 | succ fuel ih =>
  intro t L acc S hL hc hS
  simp only [Region.linearise.go]
  generalize hrs:(List.filter (fun i=>!L.getD i true && ((ops[i]?).map (·.after.all fun e=>!Region.binds .any e || L.getD e.on false)).getD false) (List.range ops.size))=rs
  have hmem:∀ i,i ∈ rs↔∃ o,ops[i]?=some o∧L[i]?=some false∧∀ e ∈ edgesOn o,e ∈ S:=by
   intro i
   rw [← hrs,List.mem_filter,List.mem_range]
   constructor
   ·rintro ⟨hi,h⟩
    have hLi:i<L.size:=by omega
    rw [Bool.and_eq_true] at h
    obtain ⟨h1,h2⟩:=h
    have ho:ops[i]?=some ops[i]:=by simp [hi]
    rw [ho] at h2
    refine ⟨_,ho,?_,fun e he=>?_⟩
    ·rw [Array.getD_eq_getD_getElem?] at h1
     rw [Array.getElem?_eq_getElem hLi] at h1 ⊢
     simpa using h1
    ·simp only [Option.map_some,Option.getD_some,Array.all_eq_true_iff_forall_mem] at h2
     simp only [edgesOn,List.mem_map,List.mem_filter] at he
     obtain ⟨ed,⟨hed,hbd⟩,rfl⟩:=he
     have:=h2 ed (by simpa using hed)
     rw [hbd] at this
     simp at this
     rw [hS]
     cases hx:L[ed.on]? with
     | none=>simp [hx] at this
     | some b=>simp [hx] at this;rw [this]
   ·rintro ⟨o,ho,h1,h2⟩
    have hi:i<ops.size:=by
     rcases Nat.lt_or_ge i ops.size with h | h
     ·exact h
     ·simp [h] at ho
    refine ⟨hi,?_⟩
    rw [Bool.and_eq_true]
    refine ⟨by simp [Array.getD_eq_getD_getElem?,h1],?_⟩
    rw [ho]
    simp only [Option.map_some,Option.getD_some,Array.all_eq_true_iff_forall_mem]
    intro ed hed
    by_cases hbd:Region.binds .any ed=true
    ·have:=h2 ed.on (by simp only [edgesOn,List.mem_map,List.mem_filter];exact ⟨ed,⟨by simpa using hed,hbd⟩,rfl⟩)
     rw [hS] at this
     simp [this]
    ·simp at hbd;simp [hbd]
  cases hsel:rs[t % rs.length]? with
  | none =>
   refine ⟨[],by simp,.nil ?_⟩
   have hnil:rs=[]:=by
    rcases Nat.eq_zero_or_pos rs.length with h | h
    ·exact List.length_eq_zero_iff.1 h
    ·have:=Nat.mod_lt t h
     rw [List.getElem?_eq_none_iff] at hsel;omega
   intro i
   induction i using Nat.strongRecOn with
   | _ i ihi =>
    intro hi
    rw [hS]
    have hLi:i<L.size:=by omega
    cases hb':L[i] with
    | true=>rw [Array.getElem?_eq_getElem hLi,hb']
    | false =>
     exfalso
     have ho:ops[i]?=some ops[i]:=by simp [hi]
     have:i ∈ rs:=(hmem i).2 ⟨_,ho,by rw [Array.getElem?_eq_getElem hLi,hb'],fun e he=>?_⟩
     ·rw [hnil] at this;cases this
     ·have hbk:=(all_lt _ _).1 hb i hi
      rw [ho] at hbk
      have hlt:e<i:=by simpa [Nat.blt_eq] using (List.all_eq_true.1 hbk) e he
      exact ihi e hlt (by omega)
  | some i =>
   have hi:i ∈ rs:=List.mem_of_getElem? hsel
   obtain ⟨o,ho,hLi,hed⟩:=(hmem i).1 hi
   have hlt:i<L.size:=by
    rcases Nat.lt_or_ge i L.size with h | h
    ·exact h
    ·simp [h] at hLi
   obtain ⟨is,h1,h2⟩:=ih (t / rs.length) (L.setIfInBounds i true) (i::acc) (i::S) (by simpa using hL) (by have:=cnt_set L i hLi;omega) (fun q=>by
    rw [List.mem_cons,hS,Array.getElem?_setIfInBounds]
    by_cases e:i=q
    ·subst e;simp [hlt]
    ·have:¬ q=i:=fun h=>e h.symm
     simp [e,this])
   refine ⟨i::is,by simp [h1],.cons ho (fun h=>?_) hed h2⟩
   rw [hS,hLi] at h;cases h
theorem lin_schedule {P:Program} (hm:P.follows .mixedOrders=true) (ops:Array Oper) (hb:backOk ops=true) (t:Nat):Lin ops [] (Region.schedule (P.follows .mixedOrders) ops t):=by
 have:Region.schedule (P.follows .mixedOrders) ops t=Region.linearise .any ops t:=by simp [Region.schedule,hm]
 rw [this]
 obtain ⟨is,h1,h2⟩:=lin_go ops hb ops.size t (Array.replicate ops.size false) [] [] (by simp) (by
  unfold cnt
  refine Nat.le_trans (List.length_filter_le _ _) (by simp)) (fun i=>by
   simp only [List.not_mem_nil,false_iff,Array.getElem?_replicate]
   split <;> simp)
 simp only [Region.linearise]
 rw [h1];simpa using h2
def Closed (ops:Array Oper) (S:List Nat):Prop:=∀ i ∈ S,∀ o,ops[i]?=some o→∀ e ∈ edgesOn o,e ∈ S
def bef:List Nat→List Oper→List Nat
 | bs,[]=>bs
 | bs,o::l=>bef (bs++[(edgesOn o).foldl (fun s e=>s ||| (1 <<< e) ||| bs.getD e 0) 0]) l
theorem fold_bits (bs:List Nat) (Q:Nat→Prop):∀ (es:List Nat) (s:Nat),(∀ j,s.testBit j=true→Q j)→(∀ e ∈ es,Q e∧∀ j,(bs.getD e 0).testBit j=true→Q j)→∀ j,(es.foldl (fun s e=>s ||| (1 <<< e) ||| bs.getD e 0) s).testBit j=true→Q j:=by
 intro es
 induction es with
 | nil=>intro s h _ j hj;exact h j hj
 | cons e es ih =>
  intro s h he j hj
  refine ih _ ?_ (fun x hx=>he x (by simp [hx])) j hj
  intro i hi
  rw [Nat.testBit_or,Nat.testBit_or,Bool.or_eq_true,Bool.or_eq_true] at hi
  rcases hi with (hi | hi) | hi
  ·exact h i hi
  ·rw [Nat.testBit_shiftLeft] at hi
   simp only [Bool.and_eq_true,decide_eq_true_eq] at hi
   have:i=e:=by
    have h1:=hi.2
    have:i-e=0:=by
     rcases Nat.eq_zero_or_pos (i-e) with h | h
     ·exact h
     ·rw [Nat.testBit_one_eq_true_iff_self_eq_zero] at h1;exact h1
    omega
   subst this;exact (he i (by simp)).1
  ·exact (he e (by simp)).2 i hi
theorem bef_ok (ops:Array Oper) (hb:backOk ops=true):∀ (l:List Oper) (bs:List Nat),(∀ k o,l[k]?=some o→ops[bs.length+k]?=some o)→(∀ i o,i<bs.length→ops[i]?=some o→∀ S,Closed ops S→(∀ e ∈ edgesOn o,e ∈ S)→∀ j,(bs.getD i 0).testBit j=true→j ∈ S) →
  ∀ i o,i<bs.length+l.length→ops[i]?=some o→∀ S,Closed ops S→(∀ e ∈ edgesOn o,e ∈ S)→∀ j,((bef bs l).getD i 0).testBit j=true→j ∈ S:=by
 intro l
 induction l with
 | nil=>intro bs _ h i o hi;exact h i o (by simpa using hi)
 | cons o l ih =>
  intro bs hl h
  have ho:ops[bs.length]?=some o:=by simpa using hl 0 o rfl
  have:=ih (bs++[(edgesOn o).foldl (fun s e=>s ||| (1 <<< e) ||| bs.getD e 0) 0]) (fun k p hk=>by
   have:=hl (k+1) p (by simpa using hk)
   simpa [Nat.add_assoc,Nat.add_comm 1 k] using this) (fun i p hi hp S hS he j hj=>by
   rw [List.length_append,List.length_singleton] at hi
   rcases Nat.lt_or_ge i bs.length with hlt | hge
   ·refine h i p hlt hp S hS he j ?_
    rw [List.getD_eq_getElem?_getD,List.getElem?_append_left hlt,← List.getD_eq_getElem?_getD] at hj
    exact hj
   ·have:i=bs.length:=by omega
    subst this
    rw [ho] at hp;cases hp
    rw [List.getD_eq_getElem?_getD,List.getElem?_append_right (Nat.le_refl _)] at hj
    simp only [Nat.sub_self,List.getElem?_cons_zero,Option.getD_some] at hj
    refine fold_bits bs (fun j=>j ∈ S) _ 0 (by simp) (fun e hee=>⟨he e hee,fun j hj=>?_⟩) j hj
    have hlt:e<bs.length:=by
     have hbl:bs.length<ops.size:=by
      rcases Nat.lt_or_ge bs.length ops.size with h | h
      ·exact h
      ·simp [h] at ho
     have:=(all_lt _ _).1 hb bs.length hbl
     rw [ho] at this
     simpa [Nat.blt_eq] using (List.all_eq_true.1 this) e hee
    have hlo:∃ p,ops[e]?=some p:=⟨ops[e]'(by
     have hbl:bs.length<ops.size:=by
      rcases Nat.lt_or_ge bs.length ops.size with h | h
      ·exact h
      ·simp [h] at ho
     omega),by simp⟩
    obtain ⟨p,hp⟩:=hlo
    exact h e p hlt hp S hS (fun x hx=>hS e (he e hee) p hp x hx) j hj)
  intro i p hi hp
  exact this i p (by simp at hi ⊢;omega) hp
theorem lin_rest {ops:Array Oper} {m:Nat} (hord:∀ i o,m≤i→ops[i]?=some o→∀ S,Closed ops S→(∀ e ∈ edgesOn o,e ∈ S)→∀ j,j<i→j ∈ S):∀ {S is:List Nat},Lin ops S is→Closed ops S→∀ q,m≤q→q≤ops.size→(∀ j,j<ops.size→(j ∈ S↔j<q))→is=List.range' q (ops.size-q):=by
 intro S is h
 induction h with
 | @nil S hS =>
  intro _ q h1 h2 h3
  have:q=ops.size:=by
   rcases Nat.lt_or_ge q ops.size with h | h
   ·have:=(h3 q h).1 (hS q h);omega
   ·omega
  subst this;simp
 | @cons S is i o ho hn hed _ ih =>
  intro hcl q h1 h2 h3
  have hi:i<ops.size:=by
   rcases Nat.lt_or_ge i ops.size with h | h
   ·exact h
   ·simp [h] at ho
  have hiq:¬ i<q:=fun h=>hn ((h3 i hi).2 h)
  have hqi:i=q:=by
   rcases Nat.lt_or_ge q i with h | h
   ·have:=hord i o (by omega) ho S hcl hed q h
    have:=(h3 q (by omega)).1 this;omega
   ·omega
  subst hqi
  have:=ih (fun j hj p hp e he=>by
   rcases List.mem_cons.1 hj with rfl | hj
   ·rw [ho] at hp;cases hp
    exact List.mem_cons_of_mem _ (hed e he)
   ·exact List.mem_cons_of_mem _ (hcl j hj p hp e he)) (i+1) (by omega) (by omega) (fun j hj=>by
   rw [List.mem_cons,h3 j hj];omega)
  rw [this]
  have e:ops.size-i=(ops.size-(i+1))+1:=by omega
  rw [e,List.range'_succ]
def namesOf (ops:Array Oper) (o:Oper):List Nat:=o.dst.toList++opTmps o.op++match o.guard with
 | some (j,_)=>((ops[j]?).bind (·.dst)).toList
 | none=>[]
def lateOk (ops:Array Oper) (m:Nat):Bool:=(List.range ops.size).all fun i=>Nat.blt i m || (List.range i).all fun j=>((bef [] ops.toList).getD i 0).testBit j
def apartOk (ops:Array Oper) (m:Nat):Bool:=(List.range m).all fun i=>match ops[i]? with
 | some o=>(List.range i).all fun j=>match ops[j]? with
  | some p=>match o.dst,p.dst with
   | some d,some e=>!(Nat.beq d e) && ((edgesOn o).elem j || (!(namesOf ops o).elem e && !(namesOf ops p).elem d))
   | _,_=>false
  | none=>false
 | none=>false
section
variable {P:Program} {f:FuncId} {n:Nat} {k:List Item} {fr:Fr} {H:List Res} {ρ R:Type} {x:Option ρ} {X:ρ→Option R} {K:R→AV→List Res→Prop} {ops:Array Oper}
inductive QOp (P:Program) (n:Nat) (H:List Res) (ops:Array Oper) (fr:Fr):Oper→AV→Prop
 | r {op:Op} {ty:TypeId} {dst:Option Nat} {pos:String} {aft:Array Edge} {av:AV}:D P n H op ty fr av→QOp P n H ops fr ⟨dst,op,ty,pos,aft,none⟩ av
 | g {op:Op} {ty:TypeId} {dst:Option Nat} {pos:String} {aft:Array Edge} {av:AV} {j dj:Nat} {b t:Bool} {oj:Oper}:ops[j]?=some oj→oj.dst=some dj→look fr dj=some (Ab t)→t=b→Nat.blt dj n=true→D P n H op ty fr av→QOp P n H ops fr ⟨dst,op,ty,pos,aft,some (j,b)⟩ av
 | u {op:Op} {ty:TypeId} {dst:Option Nat} {pos:String} {aft:Array Edge} {j dj:Nat} {b t:Bool} {oj:Oper}:ops[j]?=some oj→oj.dst=some dj→look fr dj=some (Ab t)→t = !b→Nat.blt dj n=true→QOp P n H ops fr ⟨dst,op,ty,pos,aft,some (j,b)⟩ (.lit undef)
 | v {op:Op} {ty:TypeId} {dst:Option Nat} {pos:String} {aft:Array Edge} {j dj:Nat} {b:Bool} {oj:Oper}:ops[j]?=some oj→oj.dst=some dj→look fr dj=some (.lit undef)→Nat.blt dj n=true→QOp P n H ops fr ⟨dst,op,ty,pos,aft,some (j,b)⟩ (.lit undef)
inductive QL (P:Program) (n:Nat) (H:List Res) (ops:Array Oper):Fr→List Oper→Fr→List Oper→Prop
 | n {fr:Fr} {l:List Oper}:QL P n H ops fr l fr l
 | c {fr fr':Fr} {o:Oper} {l l':List Oper} {d:Nat} {av:AV}:QOp P n H ops fr o av→o.dst=some d→Nat.blt d n=true→QL P n H ops ((d,av)::fr) l fr' l'→QL P n H ops fr (o::l) fr' l'
theorem QL.list {fr':Fr} {l l':List Oper} (h:QL P n H ops fr l fr' l'):∃ qs:List (Nat×AV),fr'=qs.reverse++fr∧l.drop qs.length=l'∧qs.length≤l.length∧∀ i d av,qs[i]?=some (d,av)→∃ o,l[i]?=some o∧o.dst=some d∧d<n∧QOp P n H ops ((qs.take i).reverse++fr) o av:=by
 induction h with
 | n=>exact ⟨[],rfl,rfl,Nat.zero_le _,by simp⟩
 | @c fr fr' o l l' d av hq hd hdn _ ih =>
  obtain ⟨qs,h1,h2,h3,h4⟩:=ih
  refine ⟨(d,av)::qs,by simp [h1],by simpa using h2,by simpa using h3,fun i d' av' hi=>?_⟩
  cases i with
  | zero =>
   simp at hi
   obtain ⟨rfl,rfl⟩:=hi
   exact ⟨o,rfl,hd,by simpa [Nat.blt_eq] using hdn,by simpa using hq⟩
  | succ i =>
   obtain ⟨o',g1,g2,g3,g4⟩:=h4 i d' av' (by simpa using hi)
   exact ⟨o',by simpa using g1,g2,g3,by simpa using g4⟩
theorem look_append (qs:List (Nat×AV)) (fr:Fr) (t:Nat) (a:AV) (h:look (qs.reverse++fr) t=some a):(∃ j:Nat,qs[j]?=some (t,a))∨(look fr t=some a∧∀ (j d:Nat) (av:AV),qs[j]?=some (d,av)→d≠t):=by
 induction hn:qs.length generalizing qs with
 | zero=>have:=List.length_eq_zero_iff.1 hn;subst this;exact .inr ⟨by simpa using h,by simp⟩
 | succ z ih0 =>
  obtain ⟨qs,q,rfl⟩:∃ qs' q,qs=qs'++[q]:=⟨qs.dropLast,qs.getLast (by intro e;subst e;cases hn),(List.dropLast_concat_getLast _).symm⟩
  have ih:=ih0 qs
  obtain ⟨d,av⟩:=q
  simp only [List.reverse_append,List.reverse_cons,List.reverse_nil,List.nil_append,List.cons_append,look] at h
  by_cases e:d=t
  ·subst e;simp at h;subst h
   exact .inl ⟨qs.length,by simp⟩
  ·have:(d == t)=false:=by simpa using e
   rw [this] at h
   rcases ih (by simpa using h) (by simp at hn;omega) with ⟨j,hj⟩ | ⟨h1,h2⟩
   ·refine .inl ⟨j,?_⟩
    rw [List.getElem?_append_left];exact hj
    rcases Nat.lt_or_ge j qs.length with h | h
    ·exact h
    ·simp [h] at hj
   ·refine .inr ⟨h1,fun j d' av' hj=>?_⟩
    rw [List.getElem?_append] at hj
    split at hj
    ·exact h2 j d' av' hj
    ·rename_i hge
     cases hjj:j-qs.length with
     | zero=>rw [hjj] at hj;simp at hj;rw [← hj.1];exact e
     | succ z=>rw [hjj] at hj;simp at hj
theorem look_take {qs:List (Nat×AV)} {fr:Fr} {t:Nat} {a:AV} {i:Nat} (h:look ((qs.take i).reverse++fr) t=some a):(∃ j:Nat,j<i∧qs[j]?=some (t,a))∨(look fr t=some a∧∀ (j d:Nat) (av:AV),j<i→qs[j]?=some (d,av)→d≠t):=by
 rcases look_append _ _ _ _ h with ⟨j,hj⟩ | ⟨h1,h2⟩
 ·rw [List.getElem?_take] at hj
  split at hj
  ·rename_i hlt;exact .inl ⟨j,hlt,hj⟩
  ·cases hj
 ·exact .inr ⟨h1,fun j d av hlt hj=>h2 j d av (by rw [List.getElem?_take,if_pos hlt];exact hj)⟩
theorem G8 {id:Nat} {l l':List Oper} {fr':Fr} (m:Nat) (hm:P.follows .mixedOrders=true) (hl:ops.toList=l) (hb:backOk ops=true) (hlate:lateOk ops m=true) (hap:apartOk ops m=true) (hq:QL P n H ops fr l fr' l') (hlen:l'.length+m=l.length)
  (h:SimL P f n ops l' k fr' H x X K):Sim P f n (.code (.region id ops true)::k) fr H x X K:=by
 obtain ⟨qs,rfl,rfl,hle,hqs⟩:=hq.list
 have hql:qs.length=m:=by simp at hlen;omega
 subst hql hl
 intro r hr w0 F0 Z0 w F Z tmps hn hi hf
 refine .regionDraw fun t=>?_
 have hlin:=lin_schedule hm ops hb t
 have hord:∀ i o,qs.length≤i→ops[i]?=some o→∀ S,Closed ops S→(∀ e ∈ edgesOn o,e ∈ S)→∀ j,j<i→j ∈ S:=by
  intro i o h1 h2 S hS he j h3
  have hi':i<ops.size:=by
   rcases Nat.lt_or_ge i ops.size with h | h
   ·exact h
   ·simp [h] at h2
  have:=(all_lt _ _).1 hlate i hi'
  have hnb:Nat.blt i qs.length=false:=by
   cases hbb:Nat.blt i qs.length with
   | true=>rw [Nat.blt_eq] at hbb;omega
   | false=>rfl
  rw [hnb,Bool.false_or] at this
  have:=(all_lt _ _).1 this j h3
  exact bef_ok ops hb ops.toList [] (fun k o hk=>by simpa using hk) (fun i o hi=>by simp at hi) i o (by simpa using hi') h2 S hS he j this
 have hsz:ops.toList.length=ops.size:=by simp
 have hap':∀ i j o p d e a b,j<i→ops[i]?=some o→ops[j]?=some p→qs[i]?=some (d,a)→qs[j]?=some (e,b)→o.dst=some d→p.dst=some e→d≠e∧(j ∈ edgesOn o∨(e ∉ namesOf ops o∧d ∉ namesOf ops p)):=by
  intro i j o p d e a b hji ho hp hqi _ hd he
  have hi':i<qs.length:=by
   rcases Nat.lt_or_ge i qs.length with h | h
   ·exact h
   ·simp [h] at hqi
  have h1:=(all_lt _ _).1 hap i hi'
  rw [ho] at h1
  have h2:=(all_lt _ _).1 h1 j hji
  rw [hp] at h2
  simp only [hd,he] at h2
  rw [Bool.and_eq_true,Bool.or_eq_true,Bool.and_eq_true] at h2
  refine ⟨fun x=>?_,h2.2.imp (fun x=>by simpa using x) fun x=>⟨by simpa using x.1,by simpa using x.2⟩⟩
  have:=h2.1
  rw [x] at this;simp at this
 have final:∀ (Z:Nat→Prop) (w:World) (tmps:Array Value) (S:List Nat),(∀ j,j<qs.length→j ∈ S)→(∀ (i d:Nat) (a:AV),i ∈ S→qs[i]?=some (d,a)→a.p Z w (tmps.getD d undef))→(∀ (t:Nat) (a:AV),look fr t=some a→(∀ (i d:Nat) (b:AV),i ∈ S→qs[i]?=some (d,b)→d≠t)→a.p Z w (tmps.getD t undef))→FrOk (qs.reverse++fr) Z w tmps:=by
  intro Z w tmps S hS h1 h2 t a ht
  rcases look_append _ _ _ _ ht with ⟨j,hj⟩ | ⟨g1,g2⟩
  ·refine h1 j t a (hS j ?_) hj
   rcases Nat.lt_or_ge j qs.length with h | h
   ·exact h
   ·simp [h] at hj
  ·exact h2 t a g1 fun i d b _ hq=>g2 i d b hq
 have qlt:∀ {i:Nat} {q:Nat×AV},qs[i]?=some q→i<qs.length:=by
  intro i q hj
  rcases Nat.lt_or_ge i qs.length with h | h
  ·exact h
  ·simp [h] at hj
 have key:∀ S is,Lin ops S is→(∀ i ∈ S,i<qs.length)→(∀ i ∈ S,∀ o,ops[i]?=some o→∀ e ∈ edgesOn o,e ∈ S)→∀ (w:World) (Z:Nat→Prop) (tmps:Array Value),tmps.size=n→Inv w0 w F0 Z0 F Z H→(∀ (i d:Nat) (a:AV),i ∈ S→qs[i]?=some (d,a)→a.p Z w (tmps.getD d undef))→(∀ (t:Nat) (a:AV),look fr t=some a→(∀ (i d:Nat) (b:AV),i ∈ S→qs[i]?=some (d,b)→d≠t)→a.p Z w (tmps.getD t undef)) →
   Run P f (.inRegion ops is::k) tmps w (Done w0 F0 Z0 (K r)):=by
  intro S is hl
  induction hl with
  | @nil S hS =>
   intro hSm _ w Z tmps hn hi h1 h2
   have hm':ops.size≤qs.length:=by
    rcases Nat.lt_or_ge qs.length ops.size with h | h
    ·have:=hSm _ (hS _ h);omega
    ·exact h
   have hnil:ops.toList.drop qs.length=[]:=by simp;omega
   rw [hnil] at h
   exact h [] rfl r hr w0 F0 Z0 w F Z tmps hn hi (final Z w tmps S (fun j hj=>hS j (by have:=hle;simp at this;omega)) h1 h2)
  | @cons S is i o ho hnS hed hlin' ih =>
   intro hSm hcl w Z tmps hn hi h1 h2
   rcases Nat.lt_or_ge i qs.length with hlt | hge
   ·obtain ⟨⟨d,av⟩,hqi⟩:∃ q,qs[i]?=some q:=⟨qs[i],by simp [hlt]⟩
    obtain ⟨o',ho',hd,hdn,hop⟩:=hqs i d av hqi
    have:o'=o:=by rw [Array.getElem?_toList,ho] at ho';exact (Option.some.inj ho').symm
    subst this
    have hslot:∀ t,t ∈ namesOf ops o'→∀ a,look ((qs.take i).reverse++fr) t=some a→a.p Z w (tmps.getD t undef):=by
     intro t ht a hla
     rcases look_take hla with ⟨j,hji,hqj⟩ | ⟨g1,g2⟩
     ·obtain ⟨p,hp,hpd,_,_⟩:=hqs j t a hqj
      rw [Array.getElem?_toList] at hp
      rcases (hap' i j o' p d t av a hji ho hp hqi hqj hd hpd).2 with hin | hno
      ·exact h1 j t a (hed j hin) hqj
      ·exact absurd ht hno.1
     ·refine h2 t a g1 fun j e b hjS hqj=>?_
      rcases Nat.lt_trichotomy j i with hlt2 | heq | hgt
      ·exact g2 j e b hlt2 hqj
      ·subst heq;exact absurd hjS hnS
      ·intro het;subst het
       obtain ⟨p,hp,hpd,_,_⟩:=hqs j e b hqj
       rw [Array.getElem?_toList] at hp
       rcases (hap' j i p o' e d b av hgt hp ho hqj hqi hpd hd).2 with hin | hno
       ·exact hnS (hcl j hjS p hp i hin)
       ·exact hno.2 ht
    have hon:FrOn (opTmps o'.op) ((qs.take i).reverse++fr) Z w tmps:=fun t ht a ha=>hslot t (by unfold namesOf;simp [ht]) a ha
    have next:∀ v w' Z',Inv w0 w' F0 Z0 F Z' H→(∀ b,Z b→Z' b)→Keep Z w w'→av.p Z' w' v→Run P f (.inRegion ops is::k) (tmps.setIfInBounds d v) w' (Done w0 F0 Z0 (K r)):=by
     intro v w' Z' hi' hz hk hv
     refine ih (fun j hj=>?_) (fun j hj p hp e he=>?_) w' Z' _ (by simpa using hn) hi' (fun j e a hj hqj=>?_) (fun t a ht hno=>?_)
     ·rcases List.mem_cons.1 hj with rfl | hj
      ·exact hlt
      ·exact hSm j hj
     ·rcases List.mem_cons.1 hj with rfl | hj
      ·rw [ho] at hp;cases hp
       exact List.mem_cons_of_mem _ (hed e he)
      ·exact List.mem_cons_of_mem _ (hcl j hj p hp e he)
     ·rw [getD_set _ _ _ _ (by omega)]
      rcases List.mem_cons.1 hj with rfl | hjS
      ·rw [hqi] at hqj;cases hqj
       rw [if_pos rfl];exact hv
      ·obtain ⟨p,hp,hpd,_,_⟩:=hqs j e a hqj
       rw [Array.getElem?_toList] at hp
       have hne:j≠i:=fun x=>hnS (x ▸ hjS)
       have hde:d≠e:=by
        rcases Nat.lt_or_ge j i with h | h
        ·exact (hap' i j o' p d e av a h ho hp hqi hqj hd hpd).1
        ·exact fun x=>(hap' j i p o' e d a av (by omega) hp ho hqj hqi hpd hd).1 x.symm
       rw [if_neg hde]
       exact a.st hz hk (h1 j e a hjS hqj)
     ·rw [getD_set _ _ _ _ (by omega),if_neg (hno i d av (List.mem_cons_self ..) hqi)]
      exact a.st hz hk (h2 t a ht fun j e b hj hqj=>hno j e b (List.mem_cons_of_mem _ hj) hqj)
    cases hop with
    | r hD=>exact does_run (d:=d) hd hdn ho (wanted_none rfl) hn hi (hD _ rfl rfl w0 F0 Z0 w F Z tmps hn hi hon) next
    | @g op ty dst pos aft av j dj b t oj hj hdj hl ht hjn hD =>
     have hjn':dj<tmps.size:=by rw [hn];simpa [Nat.blt_eq] using hjn
     have hy:=yield_of hj hdj hjn' (hslot dj (by simp [namesOf,hj,hdj]) _ hl)
     exact does_run (d:=d) hd hdn ho (by simp [Region.wanted,hy,ht]) hn hi (hD _ rfl rfl w0 F0 Z0 w F Z tmps hn hi hon) next
    | @u op ty dst pos aft j dj b t oj hj hdj hl ht hjn =>
     have hjn':dj<tmps.size:=by rw [hn];simpa [Nat.blt_eq] using hjn
     have hy:=yield_of hj hdj hjn' (hslot dj (by simp [namesOf,hj,hdj]) _ hl)
     refine .unwanted ho (by subst ht;cases b <;> simp [Region.wanted,hy]) ?_
     rw [show (⟨dst,op,ty,pos,aft,some (j,b)⟩:Oper).dst=some d from hd]
     exact next undef w Z hi (fun _ x=>x) (Keep.refl _ _) rfl
    | @v op ty dst pos aft j dj b oj hj hdj hl hjn =>
     have hjn':dj<tmps.size:=by rw [hn];simpa [Nat.blt_eq] using hjn
     have hy:=yield_none hj hdj hjn' (hslot dj (by simp [namesOf,hj,hdj]) _ hl)
     refine .unwanted ho (by simp [Region.wanted,hy]) ?_
     rw [show (⟨dst,op,ty,pos,aft,some (j,b)⟩:Oper).dst=some d from hd]
     exact next undef w Z hi (fun _ x=>x) (Keep.refl _ _) rfl
   ·have hi':i<ops.size:=by
     rcases Nat.lt_or_ge i ops.size with h | h
     ·exact h
     ·simp [h] at ho
    have hall:∀ j,j<qs.length→j ∈ S:=fun j hj=>hord i o hge ho S hcl hed j (by omega)
    have hrest:=lin_rest hord (Lin.cons ho hnS hed hlin') hcl qs.length (Nat.le_refl _) (by simpa using hle) (fun j _=>⟨hSm j,hall j⟩)
    rw [hrest]
    refine h _ ?_ r hr w0 F0 Z0 w F Z tmps hn hi (final Z w tmps S hall h1 h2)
    apply List.ext_getElem?
    intro q
    simp only [List.getElem?_map,List.getElem?_drop,Array.getElem?_toList,List.getElem?_range']
    by_cases hq:q<ops.size-qs.length
    ·have:qs.length+q<ops.size:=by omega
     simp [hq,this]
    ·have:¬ qs.length+q<ops.size:=by omega
     simp [hq,this]
 exact key [] _ hlin (by simp) (by simp) _ Z tmps hn (hi.quiet (Step.drew w _) (fun _ x=>x) (fun _ x=>.inl x)) (by simp) (fun t a ht _=>AV.st a (w:=w) (w':={ w with drawn:=w.drawn+1 }) (fun _ x=>x) (fun _ _=>rfl) (hf t a ht))
end
end S
namespace S
open Go.RowKit
set_option linter.unusedVariables false
set_option linter.unusedSimpArgs false
def cI (k:IntKind):Co Int:=⟨fun x=>[Ai k x],1,by decide,fun _=>rfl,fun _=>⟨oLit rfl,trivial⟩⟩
def cB:Co Bool:=⟨fun x=>[Ab x],1,by decide,fun _=>rfl,fun _=>⟨oLit rfl,trivial⟩⟩
def cS:Co ByteArray:=⟨fun x=>[.lit (.string x)],1,by decide,fun _=>rfl,fun _=>⟨oLit rfl,trivial⟩⟩
def cL {T:Type} (c:Co T):Co (List T):=⟨fun x=>[.fsl c x],1,by decide,fun _=>rfl,fun _=>⟨oFsl,trivial⟩⟩
theorem oSv {v:Value}:(AV.sv v).One:=fun _ _ _ ⟨e,_,_,_,h⟩=>by rw [e,h];rfl
def sls (s:ByteArray) (a b:Int):ByteArray:=s.extract a.toNat b.toNat
section
variable {P:Program} {f:FuncId} {n:Nat} {ops:Array Oper} {l:List Oper} {k:List Item} {fr:Fr} {H:List Res} {ρ R:Type} {x:Option ρ} {X:ρ→Option R} {K:R→AV→List Res→Prop} {ty t t' e:TypeId} {d:Nat} {pos:String} {aft:Array Edge}
theorem spec_of' {fn:Func} {c:Code} {avs:List AV} {y:Option R} {en:R→AV} {m:Nat} (hf:P.funcs[f]?=some fn) (hb:fn.body=some c) (hm:fn.ntmps=m) (hn:avs.length≤m)
  (h:Sim P f m [.code c] (frOf 0 avs) [] y some fun r a H=>a=en r∧H=[]):Pure P f avs y en:=by
 subst hm
 exact spec_of hf hb hn h
theorem yb {T:Type} {todo:List Item} (b i:Nat) (c:Co T) {aS:List AV} {g:Nat} (hb:H[b]?=some (.box g aS)) (hu:aS[i]?=some (.lit (.slice none 0 0))) (h:Sim P f n todo fr (H.set b (.box g (aS.set i (.fsl c [])))) x X K):Sim P f n todo fr H x X K:=by
 intro r hr w0 F0 Z0 w F Z tmps hn hi hf
 obtain ⟨F',hi',_⟩:=hi.turn (w':=w) (r':=.box g (aS.set i (.fsl c []))) hb fun G1 ⟨hg,vs,t',e1,e2⟩ _=>⟨G1,Step.refl _ _,⟨hg,vs,t',e1,e2.imp hu fun u hu=>by
  have:u = .slice none 0 0:=hu
  rw [this];exact nil_fsl c _ _⟩,fun _ x=>.inl x⟩
 exact h r hr w0 F0 Z0 w F' Z tmps hn hi' hf
inductive Elems (fr:Fr) {T:Type} (c:Co T):List (Nat×Operand)→List T→Prop
 | nil:Elems fr c [] []
 | c {i:Nat} {u:Operand} {a:AV} {y:T} {ps:List (Nat×Operand)} {ys:List T}:arg fr u=some a→CellsOf a (c.e y)→Elems fr c ps ys→Elems fr c ((i,u)::ps) (y::ys)
theorem elems_rows {T:Type} {c:Co T} {ps:List (Nat×Operand)} {ys:List T} (h:Elems fr c ps ys) {Z:Nat→Prop} {w:World} {ρ:Operand→Value} (hf:∀ {u:Operand} {a:AV},u ∈ ps.map (·.2)→arg fr u=some a→a.p Z w (ρ u)):Rows c Z w ys ((ps.map fun p=>(ρ p.2).cells.toList).flatten)∧((ps.map fun p=>(ρ p.2).cells.toList).flatten).length=ys.length*c.sz∧∀ p ∈ ps,(ρ p.2).cells.size=c.sz:=by
 induction h with
 | nil=>exact ⟨by intro i x hx;simp at hx,by simp,by simp⟩
 | @c i u a y ps ys hu hc _ ih =>
  obtain ⟨h1,h2,h3⟩:=ih fun hm hx=>hf (by simp at hm ⊢;exact .inr hm) hx
  have hcs:=hc _ _ _ (hf (by simp) hu)
  have hl:(ρ u).cells.toList.length=c.sz:=by rw [← hcs.length,c.len]
  refine ⟨fun q z hz=>?_,by simp only [List.map_cons,List.flatten_cons,List.length_append,hl,h2,List.length_cons,Nat.succ_mul];omega,fun p hp=>?_⟩
  ·cases q with
   | zero =>
    simp at hz;subst hz
    refine ⟨_,hcs,fun q u hq=>?_⟩
    simp only [List.map_cons,List.flatten_cons,Nat.zero_mul,Nat.zero_add]
    rw [List.getElem?_append_left]
    ·exact hq
    ·rcases Nat.lt_or_ge q (ρ _).cells.toList.length with h | h
     ·exact h
     ·rw [List.getElem?_eq_none_iff.2 h] at hq;cases hq
   | succ q =>
    obtain ⟨vs,g1,g2⟩:=h1 q z (by simpa using hz)
    refine ⟨vs,g1,fun r u hr=>?_⟩
    simp only [List.map_cons,List.flatten_cons]
    rw [List.getElem?_append_right (by rw [hl,Nat.succ_mul];omega),hl,← g2 r u hr]
    congr 1;rw [Nat.succ_mul];omega
  ·rcases List.mem_cons.1 hp with rfl | hp
   ·simpa using hl
   ·exact h3 p hp
theorem fill_rows (sz:Nat):∀ (ps:List (Nat×Value)) (i:Nat) (pre:List Value) (post:List Value),ps.map (·.1)=List.range' i ps.length→pre.length=i*sz→post.length=ps.length*sz→(∀ p ∈ ps,p.2.cells.size=sz) →
  Instr.fill (fun q=>some (q*sz,sz)) (pre++post).toArray ps=some (pre++(ps.map fun p=>p.2.cells.toList).flatten).toArray:=by
 intro ps
 induction ps with
 | nil=>intro i pre post h1 h2 h3 h4;simp at h3;subst h3;simp [Instr.fill]
 | cons p ps ih =>
  intro i pre post h1 h2 h3 h4
  obtain ⟨q,v⟩:=p
  simp only [List.map_cons,List.length_cons,List.range'_succ,List.cons.injEq] at h1
  obtain ⟨rfl,h1⟩:=h1
  have hv:v.cells.size=sz:=h4 (q,v) (by simp)
  have hvl:v.cells.toList.length=sz:=by simpa using hv
  simp only [List.length_cons,Nat.succ_mul] at h3
  have hfd:=foldl_splice (pre++post) v.cells.toList (q*sz) (by rw [List.length_append];omega)
  simp only [Array.toArray_toList] at hfd
  have e1:(pre++post).take (q*sz)=pre:=by rw [← h2];simp
  have e2:(pre++post).drop (q*sz+v.cells.toList.length)=post.drop sz:=by
   rw [hvl,← h2,List.drop_append];simp
  rw [e1,e2] at hfd
  have hge:¬ (q*sz+sz > (pre++post).length):=by rw [List.length_append];omega
  simp only [Instr.fill,hv,ne_eq,not_true_eq_false,List.size_toArray,hge,or_self,if_false]
  refine (congrArg (fun z=>Instr.fill _ z ps) hfd).trans ?_
  rw [ih (q+1) (pre++v.cells.toList) (post.drop sz) h1 (by rw [List.length_append,hvl,h2,Nat.succ_mul]) (by rw [List.length_drop];omega) (fun p hp=>h4 p (by simp [hp]))]
  simp
theorem bs_run {T:Type} {c:Co T} {ps:Array (Nat×Operand)} {xs:List T} {z:Value} {m bytes:Nat} (ht:P.underlying t=some (.slice e)) (hs:SizeIs P e c.sz) (hinfo:Info P e z c.sz bytes) (hp:Elems fr c ps.toList xs) (hi:(ps.toList.map (·.1) == List.range' 0 m && Nat.ble (m*c.sz) 16777216)=true)
  {o:Oper} (ho:o.op = .buildSlice t m ps) {w:World} {Z:Nat→Prop} {ρ:Operand→Value} (hf:Rho (.buildSlice t m ps) fr Z w ρ):∃ cs:List Value,(execOp ρ o).run P w = .ok (.value (.slice (some ⟨w.heap.size,0,none⟩) m m)) (w.alloc (.cells cs.toArray e))∧xs.length=m∧cs.length=m*c.sz∧m≤maxLen∧Rows c Z w xs cs:=by
 rw [Bool.and_eq_true,beq_iff_eq,Nat.ble_eq] at hi
 obtain ⟨hix,hmx⟩:=hi
 obtain ⟨g1,g2,g3⟩:=elems_rows hp (ρ:=ρ) (Z:=Z) (w:=w) fun {u a} hm hx=>hf (by simp [Op.operands];simpa using hm) hx
 have hlen:ps.toList.length=m:=by have:=congrArg List.length hix;simpa using this
 have hxl:xs.length=m:=by
  have:∀ {ps:List (Nat×Operand)} {xs:List T},Elems fr c ps xs→xs.length=ps.length:=by
   intro ps xs h
   induction h with
   | nil=>rfl
   | c _ _ _ ih=>simp [ih]
  rw [this hp,hlen]
 obtain ⟨i,i1,i2,i3,i4⟩:=hinfo.parts
 have hm2:¬ (m*c.sz > 2 ^ 24):=by simp only [Nat.reducePow];omega
 generalize hcs:(ps.toList.map fun p=>(ρ p.2).cells.toList).flatten=cs at g1 g2
 have hfill:∀ z0:Array Value,Instr.fill (fun q=>some (q*c.sz,c.sz)) ((Array.range (m*c.sz)).map (z0[· % z0.size]!)) ((ps.map fun p=>(p.1,ρ p.2)).toList)=some cs.toArray:=by
  intro z0
  have:=fill_rows c.sz (ps.toList.map fun p=>(p.1,ρ p.2)) 0 [] ((Array.range (m*c.sz)).map (z0[· % z0.size]!)).toList (by simpa [hlen,Function.comp_def] using hix) (by simp) (by simp [hlen]) (fun p hp=>by
   simp only [List.mem_map] at hp
   obtain ⟨q,hq,rfl⟩:=hp
   exact g3 q hq)
  simp only [List.nil_append,Array.toArray_toList,List.map_map,Function.comp_def,hcs] at this
  simpa using this
 refine ⟨cs,?_,hxl,by rw [g2,hxl],?_,g1⟩
 ·have hf1:∀ z0:Array Value,Instr.fill (fun q=>some (q*c.sz,c.sz)) ((Array.range (m*c.sz)).map (fun x=>z0[x % z0.size]!)) (Array.map (fun x=>(x.fst,ρ x.snd)) ps).toList=some cs.toArray:=hfill
  have h00:¬ (0 > 2 ^ 24):=by decide
  by_cases hz:m*c.sz=0
  ·have:=hf1 #[]
   rw [hz] at this
   simp only [execOp,ho,Instr.buildSlice,Sem.run_bind,run_underlying ht,Result.andThen_ok,hs w,hz,h00,Sem.run_pure,if_true,if_false,this,newRow,newObj,Sem.run]
   rfl
  ·simp only [execOp,ho,Instr.buildSlice,Sem.run_bind,run_underlying ht,Result.andThen_ok,hs w,hm2,hz,Sem.run_pure,if_false,zeroValue,typeInfo,i1,i2,program,Sem.run,hf1,newRow,newObj]
   rfl
 ·have:m*1≤m*c.sz:=Nat.mul_le_mul_left _ c.pos
  rw [mx];omega
theorem sBS {T:Type} {c:Co T} {ps:Array (Nat×Operand)} {xs:List T} {z:Value} {m bytes:Nat} (ht:P.underlying t=some (.slice e)) (hs:SizeIs P e c.sz) (hinfo:Info P e z c.sz bytes) (hp:Elems fr c ps.toList xs) (hi:(ps.toList.map (·.1) == List.range' 0 m && Nat.ble (m*c.sz) 16777216)=true) (hdn:Nat.blt d n=true)
  (h:∀ v,SimL P f n ops l k ((d,.sv v)::fr) (.own e c v xs::H) x X K):SimL P f n ops (⟨some d,.buildSlice t m ps,ty,pos,aft,none⟩::l) k fr H x X K:=by
 refine Qb (I:=Value) (fun o ho hty w0 F0 Z0 w F Z ρ hinv hf=>?_) hdn h
 obtain ⟨cs,hr,hxl,hcl,hmm,g1⟩:=bs_run ht hs hinfo hp hi ho hf
 refine ⟨.slice (some ⟨w.heap.size,0,none⟩) m m,w.alloc (.cells cs.toArray e),.slice (some ⟨w.heap.size,0,none⟩) m m,_,Z,hr,hinv.push _ (.own e c (.slice (some ⟨w.heap.size,0,none⟩) m m) xs) ?_,fun _ x=>x,(Step.alloc w _ _).keep' hinv,rfl,_,_,_,rfl⟩
 refine .inl ⟨cs,⟨by rw [hxl,hcl],.inr ⟨w.heap.size,m,cs.toArray,by rw [hxl],Nat.zero_le _,.new (heap_alloc_new w _),by rw [hxl];exact Nat.le_refl _,hmm,by simp [hcl],?_⟩⟩,fun b hb=>?_,?_⟩
 ·rw [hxl];exact List.take_of_length_le (by simp [hcl])
 ·simp [Value.ownBlock] at hb;exact hb.symm
 ·exact g1.st (fun _ x=>x) ((Step.alloc w _ _).keep' hinv)
theorem dBS {T:Type} {c:Co T} {ps:Array (Nat×Operand)} {xs:List T} {z:Value} {m bytes:Nat} (ht:P.underlying t=some (.slice e)) (hs:SizeIs P e c.sz) (hinfo:Info P e z c.sz bytes) (hp:Elems fr c ps.toList xs) (hi:(ps.toList.map (·.1) == List.range' 0 m && Nat.ble (m*c.sz) 16777216)=true):D P n H (.buildSlice t m ps) ty fr (.fsl c xs):=by
 intro o ho hty w0 F0 Z0 w F Z tmps hn hinv hf
 obtain ⟨cs,hr,hxl,hcl,hmm,g1⟩:=bs_run ht hs hinfo hp hi ho (ρ:=(⟨tmps,[]⟩:Act).eval) (Z:=Z) fun hm hx=>arg_ok hf hx hm
 have s:=Step.alloc w (.cells cs.toArray e) (fun _=>False)
 refine .inl ⟨_,_,hr,fun b=>Z b∨b=w.heap.size,fun _ x=>.inl x,fun b x=>x.imp id fun e=>by subst e;exact ⟨Nat.le_refl _,by simp⟩,s,?_⟩
 have hown:(Res.own e c (.slice (some ⟨w.heap.size,0,none⟩) m m) xs).h Z (w.alloc (.cells cs.toArray e)) (fun b=>b=w.heap.size):=by
  refine .inl ⟨cs,⟨by rw [hxl,hcl],.inr ⟨w.heap.size,m,cs.toArray,by rw [hxl],Nat.zero_le _,.new (heap_alloc_new w _),by rw [hxl];exact Nat.le_refl _,hmm,by simp [hcl],?_⟩⟩,fun b hb=>?_,?_⟩
  ·rw [hxl];exact List.take_of_length_le (by simp [hcl])
  ·simp [Value.ownBlock] at hb;exact hb.symm
  ·exact g1.st (fun _ x=>x) (s.keep' hinv)
 exact own_fsl hown
theorem dBS0 {T:Type} {c:Co T} {z:Value} {bytes:Nat} (ht:P.underlying t=some (.slice e)) (hs:SizeIs P e c.sz) (hinfo:Info P e z c.sz bytes):D P n H (.buildSlice t 0 #[]) ty fr .es:=by
 intro o ho hty w0 F0 Z0 w F Z tmps hn hinv hf
 obtain ⟨cs,hr,hxl,hcl,hmm,g1⟩:=bs_run (c:=c) (xs:=[]) (ps:=#[]) (m:=0) (fr:=fr) ht hs hinfo .nil (by simp) ho (ρ:=(⟨tmps,[]⟩:Act).eval) (w:=w) (Z:=Z) fun hm hx=>arg_ok hf hx hm
 refine .inl ⟨_,_,hr,fun b=>Z b∨b=w.heap.size,fun _ x=>.inl x,fun b x=>x.imp id fun e=>by subst e;exact ⟨Nat.le_refl _,by simp⟩,Step.alloc w (.cells cs.toArray e) (fun _=>False),_,rfl⟩
variable {y z:Operand} {s u:ByteArray}
theorem bytes_beq (s u:ByteArray):(s == u)=decide (s=u):=by
 cases s with
 | mk a=>cases u with
  | mk b =>
   show (a == b)=_
   rw [Bool.eq_iff_iff];simp
theorem bytes_beq' (s u:ByteArray):(s.toList == u.toList)=decide (s=u):=by rw [← beq_toListBytes,bytes_beq]
theorem ke (hy:arg fr y=some (.lit (.string s))) (hz:arg fr z=some (.lit (.string u))):D P n H (.binOp .eql t y z t') ty fr (Ab (decide (s=u))) :=
 .of fun o ho hty w Z F ρ _ hf=>by
  have e1:ρ y=_:=hf (by simp [Op.operands]) hy
  have e2:ρ z=_:=hf (by simp [Op.operands]) hz
  exact ⟨.bool (decide (s=u)),by simp [execOp,ho,e1,e2,eqGuard_at_string,binOp,Op.stringOp,Sem.run_bind,bytes_beq'],rfl⟩
theorem jd (hy:arg fr y=some (.lit (.string s))) (hz:arg fr z=some (.lit (.string u))):D P n H (.binOp .neq t y z t') ty fr (Ab (decide (s≠u))) :=
 .of fun o ho hty w Z F ρ _ hf=>by
  have e1:ρ y=_:=hf (by simp [Op.operands]) hy
  have e2:ρ z=_:=hf (by simp [Op.operands]) hz
  exact ⟨.bool (decide (s≠u)),by simp [execOp,ho,e1,e2,eqGuard_at_string,binOp,Op.stringOp,Sem.run_bind,bytes_beq'],rfl⟩
theorem Va (hb:(s.size:Int)+(u.size:Int)≤140737488355328) (hy:arg fr y=some (.lit (.string s))) (hz:arg fr z=some (.lit (.string u))):D P n H (.binOp .add t y z t') ty fr (.lit (.string (s++u))) :=
 .of fun o ho hty w Z F ρ _ hf=>by
  have e1:ρ y=_:=hf (by simp [Op.operands]) hy
  have e2:ρ z=_:=hf (by simp [Op.operands]) hz
  have hn:¬ (9223372036854775807<(s.size:Int)+(u.size:Int)):=by omega
  exact ⟨.string (s++u),by simp [execOp,ho,e1,e2,eqGuard_at_string,binOp,Op.stringOp,Sem.run_bind,hn],rfl⟩
end
end S
namespace S
open Go.RowKit Go.ChangeShapes Go.WideShapes
set_option linter.unusedVariables false
set_option linter.unusedSimpArgs false
section
variable {H:Type} {enc:TypeId×Value→H} {P:Program} {W:World}
def Zof (W:World) (b:Nat):Prop:=b<W.heap.size
def Fits {H:Type} (P:Program) (t:TypeId) (d:DataW H):Prop:=(d.weights P t).all (·≤reachBytes)=true
def Opn {T:Type} (enc:TypeId×Value→H) (P:Program) (W:World) (t:TypeId) (c:Co T) (wf:T→Prop):Prop :=
 ∀ (n:Nat) (cs:List Value) (x:DataW H×List MemPlace),DataW.trod enc P W 0 (fun _=>true) true n t cs=some x→Fits P t x.1→∃ v,AllP (Zof W) W (c.e v) cs∧wf v
def wfI (k:IntKind) (n:Int):Prop:=(Lit.int k n).wf=true
def wfB (_:Bool):Prop:=True
def wfS (s:ByteArray):Prop:=s.size≤reachBytes
def wfL {T:Type} (wf:T→Prop) (bytes:Nat) (xs:List T):Prop:=xs.length*bytes≤reachBytes∧∀ x ∈ xs,wf x
theorem opI {t:TypeId} {k:IntKind} (ht:P.underlying t=some (.int k)):Opn enc P W t (cI k) (wfI k):=fun n cs x h _=>by
 obtain ⟨m,rfl,_,hw⟩:=DataW.trod_int ht h
 exact ⟨m,.cons rfl .nil,hw⟩
theorem opB {t:TypeId} (ht:P.underlying t=some .bool):Opn enc P W t cB wfB:=fun n cs x h _=>by
 cases n with
 | zero=>simp [DataW.trod] at h
 | succ n =>
  unfold DataW.trod at h
  rw [ht] at h
  split at h <;> first | (rename_i b _;exact ⟨b,.cons rfl .nil,trivial⟩) | simp_all
theorem cell_lt {w:World} {a:Addr} {u:Value} (h:w.cell? a=some u):a.block<w.heap.size:=by
 rcases Nat.lt_or_ge a.block w.heap.size with hl | hl
 ·exact hl
 ·exfalso
  unfold World.cell? at h
  rw [Array.getElem?_eq_none hl] at h
  simp at h
theorem list_of {T:Type} {p:Nat→T→Prop}:∀ len,(∀ i,i<len→∃ v,p i v)→∃ xs:List T,xs.length=len∧∀ i x,xs[i]?=some x→p i x:=by
 intro len
 induction len with
 | zero=>intro _;exact ⟨[],rfl,by simp⟩
 | succ len ih =>
  intro hel
  obtain ⟨xs,h1,h2⟩:=ih fun i hi=>hel i (by omega)
  obtain ⟨v,hv⟩:=hel len (by omega)
  refine ⟨xs++[v],by simp [h1],fun i x hx=>?_⟩
  rw [List.getElem?_append] at hx
  split at hx
  ·exact h2 i x hx
  ·have:i=len:=by
    rcases Nat.eq_zero_or_pos (i-xs.length) with h | h
    ·omega
    ·rw [List.getElem?_eq_none (by simp;omega)] at hx;cases hx
   subst this
   simp [h1] at hx
   subst hx;exact hv
theorem weightsAll_mem {e:TypeId} {ds:List (DataW H)} (h:∀ q ∈ DataW.weightsAll P e ds,q≤reachBytes):∀ d ∈ ds,Fits P e d:=by
 induction ds with
 | nil=>simp
 | cons d ds ih =>
  intro y hy
  simp only [DataW.weightsAll,List.mem_append] at h
  rcases List.mem_cons.1 hy with rfl | hy
  ·simp only [Fits,List.all_eq_true,decide_eq_true_eq]
   exact fun q hq=>h q (.inl hq)
  ·exact ih (fun q hq=>h q (.inr hq)) y hy
theorem weightsEach_get {ts:List TypeId} {ds:List (DataW H)} (h:∀ q ∈ DataW.weightsEach P ts ds,q≤reachBytes):∀ (i:Nat) (t:TypeId) (d:DataW H),ts[i]?=some t→ds[i]?=some d→Fits P t d:=by
 induction ts generalizing ds with
 | nil=>intro i t d ht;simp at ht
 | cons t ts ih =>
  intro i t' d' ht hd
  cases ds with
  | nil=>simp at hd
  | cons d ds =>
   simp only [DataW.weightsEach,List.mem_append] at h
   cases i with
   | zero =>
    simp at ht hd;subst ht hd
    simp only [Fits,List.all_eq_true,decide_eq_true_eq]
    exact fun q hq=>h q (.inl hq)
   | succ i=>exact ih (fun q hq=>h q (.inr hq)) i t' d' (by simpa using ht) (by simpa using hd)
theorem AllP.piece {Z:Nat→Prop} {w:World} {az bs:List AV} {cs:List Value} {off s:Nat} (h1:AllP Z w az ((cs.drop off).take s)) (h2:AllP Z w bs (cs.drop (off+s))):AllP Z w (az++bs) (cs.drop off):=by
 have:cs.drop off=(cs.drop off).take s++cs.drop (off+s):=by rw [← List.drop_drop,List.take_append_drop]
 rw [this]
 exact h1.append h2
theorem AllP.stop {Z:Nat→Prop} {w:World} {cs:List Value} {n:Nat} (h:cs.length=n):AllP Z w [] (cs.drop n):=by
 rw [List.drop_eq_nil_of_le (by omega)];exact .nil
def ArgOk {T:Type} (enc:TypeId×Value→H) (P:Program) (W:World) (t:TypeId) (av:T→AV) (wf:T→Prop):Prop :=
 ∀ (r:Reach) (b0:Nat) (v:Value) (d:DataW H) (ps:List MemPlace),Value.okWide P W r b0 t v→DataW.Trod enc P W 0 (fun _=>true) true t v d ps→Fits P t d→∃ x,(av x).p (Zof W) W v∧wf x
inductive ArgsOk (enc:TypeId×Value→H) (P:Program) (W:World):List TypeId→(List AV→Prop)→Prop
 | nil {Q:List AV→Prop}:Q []→ArgsOk enc P W [] Q
 | cons {T:Type} {t:TypeId} {ts:List TypeId} {av:T→AV} {wf:T→Prop} {Q:List AV→Prop}:ArgOk enc P W t av wf→(∀ x,wf x→ArgsOk enc P W ts fun az=>Q (av x::az))→ArgsOk enc P W (t::ts) Q
theorem ArgsOk.get {ts:List TypeId} {Q:List AV→Prop} (h:ArgsOk enc P W ts Q):∀ {vs:List Value} {ds:List (DataW H)} {ps:List MemPlace} {r:Reach} {b0:Nat},DataW.TrodAll enc P W 0 (fun _=>true) true ts vs ds ps→(∀ (j:Nat) t v,ts[j]?=some t→vs[j]?=some v→Value.okWide P W r b0 t v)→(∀ q ∈ DataW.weightsEach P ts ds,q≤reachBytes)→∃ az,AllP (Zof W) W az vs∧Q az:=by
 induction h with
 | nil hq =>
  intro vs ds ps r b0 ht _ _
  match vs,ds,ht with
  | [],[],_=>exact ⟨[],.nil,hq⟩
 | @cons T t ts av wf Q ha _ ih =>
  intro vs ds ps r b0 ht hv hw
  match vs,ds,ht with
  | v::vs,d::ds,⟨p,q,h1,h2,_⟩ =>
   obtain ⟨x,hx,hwf⟩:=ha r b0 v d p (hv 0 t v rfl rfl) h1 (weightsEach_get hw 0 t d rfl rfl)
   obtain ⟨az,h3,h4⟩:=ih x hwf h2 (fun j t v h h'=>hv (j+1) t v (by simpa using h) (by simpa using h')) (fun q hq=>hw q (by simp only [DataW.weightsEach,List.mem_append];exact .inr hq))
   exact ⟨_,.cons hx h3,h4⟩
theorem trodAll_same {W':World} (hk:∀ b,b<W.heap.size→W'.heap[b]?=W.heap[b]?):∀ {ts:List TypeId} {vs:List Value} {ds:List (DataW H)} {ps:List MemPlace},DataW.TrodAll enc P W 0 (fun _=>true) true ts vs ds ps→DataW.TrodAll enc P W' 0 (fun _=>true) true ts vs ds ps
 | [],[],[],_,h=>h
 | _::_,_::_,_::_,_,⟨p,q,⟨n,h1⟩,h2,e⟩=>⟨p,q,⟨n,DataW.trod_carry n _ _ _ h1 fun x hx=>by
   have hlt:=DataW.trod_lt n _ _ _ h1 x hx
   cases x with
   | cell b o=>exact World.cell?_of_block (w:=W) (hk b hlt)
   | map b=>exact hk b hlt⟩,trodAll_same hk h2,e⟩
theorem trodAll_lt:∀ {ts:List TypeId} {vs:List Value} {ds:List (DataW H)} {ps:List MemPlace},DataW.TrodAll enc P W 0 (fun _=>true) true ts vs ds ps→∀ p ∈ ps,p.block<W.heap.size
 | [],[],[],_,h,p,hp=>by simp [DataW.TrodAll] at h;subst h;cases hp
 | _::_,_::_,_::_,_,⟨p,q,⟨n,h1⟩,h2,e⟩,x,hx=>by
  subst e
  rcases List.mem_append.1 hx with hx | hx
  ·exact DataW.trod_lt n _ _ _ h1 x hx
  ·exact trodAll_lt h2 x hx
theorem trodAll_len:∀ {ts:List TypeId} {vs:List Value} {ds:List (DataW H)} {ps:List MemPlace},DataW.TrodAll enc P W 0 (fun _=>true) true ts vs ds ps→ds.length=ts.length
 | [],[],[],_,h=>rfl
 | _::_,_::_,_::_,_,⟨p,q,_,h2,e⟩=>congrArg (·+1) (trodAll_len h2)
end
end S
end Go.Proofs.Ytokccimmgilciaa

