import Derived.Maps.AppendAt
import Derived.Test.YtgmnohjaciemmaaW0
namespace Go.Proofs.Ytgmnohjaciemmaa
namespace S
open Go.RowKit
set_option linter.unusedVariables false
set_option linter.unusedSimpArgs false
theorem mx:maxLen=9223372036854775807:=rfl
theorem HAll.give {H:List Res}:∀ {j:Nat} {r r':Res} {Z F:Nat→Prop} {w:World},H[j]?=some r→HAll H Z w F→∃ F1:Nat→Prop,r.h Z w F1∧(∀ b,F1 b→F b) ∧
  ∀ (Z':Nat→Prop),(∀ b,Z b→Z' b)→r'.h Z' w (fun _=>False)→HAll (H.set j r') Z' w (fun b=>F b∧¬ F1 b):=by
 induction H with
 | nil=>intro j r r' Z F w h;simp at h
 | cons a H ih =>
  rintro j r r' Z F w hj ⟨F1,F2,h1,h2,d1,d2⟩
  cases j with
  | zero =>
   simp at hj;subst hj
   exact ⟨F1,h1,fun b hb=>(d1 b hb).1,fun Z' hz hg=>⟨fun _=>False,F2,hg,h2.st hz (fun _ _=>rfl),fun b hb=>hb.elim,fun b hb=>⟨d2 b hb,fun y=>(d1 b y).2 hb⟩⟩⟩
  | succ j =>
   simp at hj
   obtain ⟨E1,e1,ee,hset⟩:=ih (r':=r') hj h2
   refine ⟨E1,e1,fun b hb=>d2 b (ee b hb),fun Z' hz hg=>⟨F1,fun b=>F2 b∧¬ E1 b,a.st hz (fun _ _=>rfl) h1,hset Z' hz hg,fun b hb=>⟨⟨(d1 b hb).1,fun y=>(d1 b hb).2 (ee b y)⟩,fun y=>(d1 b hb).2 y.1⟩,fun b hb=>⟨d2 b hb.1,hb.2⟩⟩⟩
def AV.ep (v:Value) (k:Nat):AV:=⟨fun _ _ u=>∃ a m c,v = .slice (some a) m c∧u = .pointer (some (a.add k)),fun _ _ h=>h⟩
section
variable {P:Program} {f:FuncId} {n:Nat} {ops:Array Oper} {l:List Oper} {k:List Item} {fr:Fr} {H:List Res} {ρ R:Type} {x:Option ρ} {X:ρ→Option R} {K:R→AV→List Res→Prop} {ty t t' e t0:TypeId} {d:Nat} {pos:String} {aft:Array Edge}
variable {T:Type} {c:Co T} {v:Value} {xs:List T} {j:Nat}
theorem Jb {y:Operand} (ht:P.underlying t=some (.slice e)) (hy:arg fr y=some (.sv v)) (hj:H[j]?=some (.own t0 c v xs)):D P n H (.call ⟨.builtin .len,#[y],#[t]⟩) ty fr (Ai .i64 xs.length) :=
 .of fun o ho hty w Z F ρ hH hf=>by
  obtain ⟨h1,_⟩:=hf (by simp [Op.operands,Call.operands]) hy
  obtain ⟨F1,h,_⟩:=hH.at hj
  obtain ⟨A,m,e1⟩:=own_sv h
  rw [e1] at h1
  exact ⟨.int .i64 xs.length,by simp [execOp,ho,h1,resolve,invoke,builtin,Builtin.len_,run_underlying ht,goInt,Sem.run_bind],rfl⟩
theorem own_cells {Z F:Nat→Prop} {w:World} (h:(Res.own t0 c v xs).h Z w F) (hn:0<xs.length):∃ g cap cur,v = .slice (some ⟨g,0,none⟩) xs.length cap∧RowAt w g cur t0∧xs.length≤cap∧cap≤maxLen∧cur.size=cap*c.sz∧F g ∧
  Rows c Z w xs (cur.toList.take (xs.length*c.sz)):=by
 obtain ⟨cs,⟨hl,ho⟩,hb,hr⟩ | ⟨rfl,A,rfl⟩:=h
 case inr=>simp at hn
 rcases ho with ⟨hv,hn'⟩ | ⟨g,cap,cur,hv,hg,hh,hcap,hm,hcs,htk⟩
 ·omega
 ·exact ⟨g,cap,cur,hv,hh,hcap,hm,hcs,hb g (by rw [hv];rfl),by rw [htk];exact hr⟩
theorem bc {y z:Operand} {kd:IntKind} {i:Int} (ht:P.underlying t=some (.slice e)) (hsz:SizeIs P e c.sz) (hy:arg fr y=some (.sv v)) (hj:H[j]?=some (.own t0 c v xs)) (hz:arg fr z=some (Ai kd i)) (h0:0≤i) (h1:i<xs.length):D P n H (.indexAddr t y z) ty fr (.ep v (i.toNat*c.sz)) :=
 .of fun o ho hty w Z F ρ hH hf=>by
  obtain ⟨e1,_⟩:=hf (by simp [Op.operands]) hy
  have e2:ρ z=_:=hf (by simp [Op.operands]) hz
  obtain ⟨F1,h,_⟩:=hH.at hj
  obtain ⟨g,cap,cur,hv,_⟩:=own_cells h (by omega)
  rw [hv] at e1
  refine ⟨.pointer (some ((⟨g,0,none⟩:Addr).add (i.toNat*c.sz))),?_,_,_,_,hv,rfl⟩
  simp [execOp,ho,e1,e2,Instr.indexAt,run_underlying ht,hsz _,Sem.run_bind,asIntOf,h0,h1]
theorem rf {y:Operand} {m i off:Nat} (hf':FA P t i off) (hy:arg fr y=some (.ep v m)):D P n H (.fieldAddr t y i) ty fr (.ep v (m+off)) :=
 .of fun o ho hty w Z F ρ _ hf=>by
  obtain ⟨a,q,c',e1,e2⟩:=hf (by simp [Op.operands]) hy
  exact ⟨.pointer (some ((a.add m).add off)),by simp [execOp,ho,e2,hf' _ w,Sem.run_bind],a,q,c',e1,by rw [add_add]⟩
theorem own_at' [Inhabited T] {Z F:Nat→Prop} {w:World} {i:Int} (h:(Res.own t0 c v xs).h Z w F) (h0:0≤i) (h1:i<xs.length):∃ g cap cur vs,v = .slice (some ⟨g,0,none⟩) xs.length cap∧RowAt w g cur t0∧xs.length≤cap∧cap≤maxLen∧cur.size=cap*c.sz∧F g∧AllP Z w (c.e (rd xs i)) vs∧vs.length=c.sz ∧
  (∀ j u,vs[j]?=some u→cur[i.toNat*c.sz+j]?=some u)∧i.toNat*c.sz+c.sz≤xs.length*c.sz:=by
 obtain ⟨g,cap,cur,hv,hh,hcap,hm,hcs,hF,hr⟩:=own_cells h (by omega)
 obtain ⟨vs,h2,h3⟩:=hr i.toNat _ (rd_get h0 h1)
 refine ⟨g,cap,cur,vs,hv,hh,hcap,hm,hcs,hF,h2,by rw [← h2.length,c.len],fun j u hu=>?_,?_⟩
 ·have:=h3 j u hu
  rw [List.getElem?_take] at this
  split at this
  ·simpa using this
  ·cases this
 ·rw [← Nat.succ_mul];exact Nat.mul_le_mul_right _ (by omega)
theorem Md [Inhabited T] {y:Operand} {m off:Nat} {a:AV} (i:Int) (hg:IsAgg P t false) (hy:arg fr y=some (.ep v m)) (hj:H[j]?=some (.own t0 c v xs)) (hm:m=i.toNat*c.sz+off) (h0:0≤i) (h1:i<xs.length) (ha:(c.e (rd xs i))[off]?=some a):D P n H (.load t y) ty fr a :=
 .of fun o ho hty w Z F ρ hH hf=>by
  obtain ⟨ad,q,c',e1,e2⟩:=hf (by simp [Op.operands]) hy
  obtain ⟨F1,h,_⟩:=hH.at hj
  obtain ⟨g,cap,cur,vs,hv,⟨fz,hh,_⟩,_,_,_,_,h2,_,h3,_⟩:=own_at' h h0 h1
  rw [hv] at e1;simp at e1
  obtain ⟨rfl,_,_⟩:=e1
  obtain ⟨u,hu,hp⟩:=h2.get ha
  exact ⟨u,by simp [execOp,ho,e2,load_one (a:=(⟨g,0,none⟩:Addr).add m) (v:=u) hg (by rw [Addr.add_lit,cell_of_row _ _ _ _ _ _ hh,Nat.zero_add,hm];exact h3 off u hu),Sem.run_bind],hp⟩
theorem Ld [Inhabited T] {y:Operand} {m off q:Nat} (i:Int) (hg:IsAgg P t true) (hs:SizeIs P t q) (hy:arg fr y=some (.ep v m)) (hj:H[j]?=some (.own t0 c v xs)) (hm:m=i.toNat*c.sz+off) (h0:0≤i) (h1:i<xs.length) (hq:off+q≤c.sz):D P n H (.load t y) ty fr (.agg (((c.e (rd xs i)).drop off).take q)) :=
 .of fun o ho hty w Z F ρ hH hf=>by
  obtain ⟨ad,q',c',e1,e2⟩:=hf (by simp [Op.operands]) hy
  obtain ⟨F1,h,_⟩:=hH.at hj
  obtain ⟨g,cap,cur,vs,hv,⟨fz,hh,_⟩,_,_,_,_,h2,h4,h3,_⟩:=own_at' h h0 h1
  rw [hv] at e1;simp at e1
  obtain ⟨rfl,_,_⟩:=e1
  refine ⟨.agg ((vs.drop off).take q).toArray,?_,_,rfl,(h2.drop off).take q⟩
  have:=load_agg (P:=P) (t:=t) (a:=(⟨g,0,none⟩:Addr).add m) (vs:=(vs.drop off).take q) (w:=w) hg hs (by simp;omega) (fun r u hu=>by
   rw [Addr.add_lit,Addr.add_lit,cell_of_row _ _ _ _ _ _ hh,Nat.zero_add,hm]
   rw [List.getElem?_take] at hu
   split at hu
   ·rw [List.getElem?_drop] at hu;have:=h3 _ u hu;rw [← this];congr 1;omega
   ·cases hu)
  simp only [execOp,ho,e2,this,Sem.run_bind,Result.andThen_ok,Sem.run_pure]
theorem take_splice {α:Type} (L us:List α) (a N:Nat) (h:a+us.length≤N) (hN:N≤L.length):(L.take a++us++L.drop (a+us.length)).take N=(L.take N).take a++us++(L.take N).drop (a+us.length):=by
 apply List.ext_getElem?
 intro i
 simp only [List.getElem?_take,List.getElem?_append,List.getElem?_drop,List.length_append,List.length_take]
 have e1:min a L.length=a:=by omega
 have e2:min a (min N L.length)=a:=by omega
 simp only [e1,e2]
 by_cases h1:i<a
 ·have:i<N:=by omega
  have:i<a+us.length:=by omega
  simp [*]
 ·by_cases h2:i<a+us.length
  ·have:i<N:=by omega
   simp [*]
  ·by_cases h3:i<N
   ·have:a+us.length+(i-(a+us.length))<N:=by omega
    simp [*]
   ·have:¬ (a+us.length+(i-(a+us.length))<N):=by omega
    simp [*]
theorem Wd [Inhabited T] {y u:Operand} {m off q:Nat} {bs:List AV} {a:AV} (i:Int) (x':T) (hs:SizeIs P t q) (hy:arg fr y=some (.ep v m)) (hj:H[j]?=some (.own t0 c v xs)) (hm:m=i.toNat*c.sz+off) (h0:0≤i) (h1:i<xs.length) (hu:arg fr u=some a) (hc:CellsOf a bs) (ho1:OneL bs) (hq:bs.length=q) (hql:off+q≤c.sz)
  (hx':c.e x'=splice (c.e (rd xs i)) off bs) (h:SimL P f n ops l k fr (H.set j (.own t0 c v (xs.set i.toNat x'))) x X K):SimL P f n ops (⟨none,.store t y u,ty,pos,aft,none⟩::l) k fr H x X K:=by
 refine cd (fun o ho w0 F0 Z0 w F Z ρ hi hf=>?_) h
 obtain ⟨ad,q',c',e1,e2⟩:=hf (by simp [Op.operands]) hy
 have hp:=hf (by simp [Op.operands]) hu
 have hcs:=hc _ _ _ hp
 have l1:=hcs.length
 obtain ⟨F1,hown,_⟩:=hi.res.at hj
 obtain ⟨g,cap,cur,vs,hv,⟨fz,hh,hfz⟩,hcap,hmx,hsz,hF,h2,h4,h3,hle⟩:=own_at' hown h0 h1
 rw [hv] at e1;simp at e1
 obtain ⟨rfl,_,_⟩:=e1
 have hcapsz:xs.length*c.sz≤cap*c.sz:=Nat.mul_le_mul_right _ hcap
 have e2':ρ y = .pointer (some ⟨g,m,none⟩):=by rw [e2,Addr.add_lit,Nat.zero_add]
 have hh':w.heap[g]?=some (.cells cur.toList.toArray t0 fz):=by simpa using hh
 have hlen:cur.toList.length=cap*c.sz:=by simpa using hsz
 have hr:=store_row (P:=P) (t:=t) (b:=g) (o:=m) (v:=ρ u) (us:=(ρ u).cells.toList) (vs:=cur.toList) (w:=w) hs rfl (by omega) hh' (by simpa using hfz) (by omega) (hcs.oneL ho1)
 obtain ⟨F',hi',hk⟩:=hi.turn (w':=w.setRow g (cur.toList.take m++(ρ u).cells.toList++cur.toList.drop (m+(ρ u).cells.toList.length)).toArray) (r':=.own t0 c v (xs.set i.toNat x')) hj fun F1 hown' hz1=>by
  obtain ⟨cs,⟨hl,hor⟩,hb,hrows⟩ | ⟨rfl,A,rfl⟩:=hown'
  case inr=>simp at h1;omega
  rcases hor with ⟨hv',hn'⟩ | ⟨g',cap',cur',hv',hg',⟨fz2,hh2,hfz2⟩,hcap',hm',hcs',htk⟩
  ·omega
  ·rw [hv] at hv';simp at hv'
   obtain ⟨rfl,rfl⟩:=hv'
   rw [hh] at hh2;cases hh2
   have hF1:F1 g:=hb g (by rw [hv];rfl)
   have s:=Step.setRow w g (cur.toList.take m++(ρ u).cells.toList++cur.toList.drop (m+(ρ u).cells.toList.length)).toArray F1 hF1
   have hkz:Keep Z w (w.setRow g (cur.toList.take m++(ρ u).cells.toList++cur.toList.drop (m+(ρ u).cells.toList.length)).toArray):=fun b hz=>s.keep b (hz1 b hz).1 (hz1 b hz).2
   refine ⟨F1,s,.inl ⟨cs.take m++(ρ u).cells.toList++cs.drop (m+(ρ u).cells.toList.length),⟨?_,.inr ⟨g,cap,_,by simpa using hv,Nat.zero_le _,⟨fz,setRow_heap w g cur _ t0 _ hh,?_⟩,by simpa using hcap,hm',?_,?_⟩⟩,hb,?_⟩,fun _ x=>.inl x⟩
   ·simp only [List.length_append,List.length_take,List.length_drop,List.length_set];omega
   ·have:(cur.toList.take m++(ρ u).cells.toList++cur.toList.drop (m+(ρ u).cells.toList.length)).toArray.size=cur.size:=by
     simp only [List.size_toArray,List.length_append,List.length_take,List.length_drop];omega
    rw [this];exact hfz
   ·simp only [List.size_toArray,List.length_append,List.length_take,List.length_drop];omega
   ·simp only [List.length_set]
    rw [← htk]
    exact take_splice cur.toList _ m (xs.length*c.sz) (by omega) (by omega)
   ·intro r z hr
    rw [List.getElem?_set] at hr
    by_cases hri:i.toNat=r
    ·subst hri
     have hlt:i.toNat<xs.length:=by omega
     simp [hlt] at hr;subst hr
     obtain ⟨vs0,g1,g2⟩:=hrows i.toNat _ (rd_get h0 h1)
     have hl0:vs0.length=c.sz:=by rw [← g1.length,c.len]
     refine ⟨_,by rw [hx'];exact (g1.splice hcs off).st (fun _ x=>x) hkz,fun q2 z2 hz2=>?_⟩
     rw [List.getElem?_append,List.getElem?_append] at hz2 ⊢
     simp only [List.length_append,List.length_take] at hz2 ⊢
     have hmc:min m cs.length=m:=by omega
     have hov:min off vs0.length=off:=by omega
     rw [hmc];rw [hov] at hz2
     by_cases q1:q2<off
     ·have a1:q2<off+(ρ u).cells.toList.length:=by omega
      have a2:i.toNat*c.sz+q2<m+(ρ u).cells.toList.length:=by omega
      have a3:i.toNat*c.sz+q2<m:=by omega
      rw [if_pos a1,if_pos q1,List.getElem?_take,if_pos q1] at hz2
      rw [if_pos a2,if_pos a3,List.getElem?_take,if_pos a3]
      exact g2 q2 z2 hz2
     ·by_cases q3:q2<off+(ρ u).cells.toList.length
      ·have a2:i.toNat*c.sz+q2<m+(ρ u).cells.toList.length:=by omega
       have a3:¬ i.toNat*c.sz+q2<m:=by omega
       rw [if_pos q3,if_neg q1] at hz2
       rw [if_pos a2,if_neg a3,← hz2];congr 1;omega
      ·have a2:¬ i.toNat*c.sz+q2<m+(ρ u).cells.toList.length:=by omega
       rw [if_neg q3,List.getElem?_drop] at hz2
       rw [if_neg a2,List.getElem?_drop]
       have:=g2 _ z2 hz2
       rw [← this];congr 1;omega
    ·rw [if_neg hri] at hr
     obtain ⟨vs0,g1,g2⟩:=hrows r z hr
     have hl0:vs0.length=c.sz:=by rw [← g1.length,c.len]
     refine ⟨vs0,g1.st (fun _ x=>x) hkz,fun q2 z2 hz2=>?_⟩
     have hq2:q2<c.sz:=by
      rcases Nat.lt_or_ge q2 vs0.length with h | h
      ·omega
      ·simp [h] at hz2
     have hg:=g2 q2 z2 hz2
     have hmc:min m cs.length=m:=by omega
     rw [List.getElem?_append,List.getElem?_append]
     simp only [List.length_append,List.length_take,hmc]
     rcases Nat.lt_or_ge r i.toNat with hlt | hge
     ·have:r*c.sz+c.sz≤i.toNat*c.sz:=by rw [← Nat.succ_mul];exact Nat.mul_le_mul_right _ hlt
      have a2:r*c.sz+q2<m+(ρ u).cells.toList.length:=by omega
      have a3:r*c.sz+q2<m:=by omega
      rw [if_pos a2,if_pos a3,List.getElem?_take,if_pos a3];exact hg
     ·have:i.toNat*c.sz+c.sz≤r*c.sz:=by rw [← Nat.succ_mul];exact Nat.mul_le_mul_right _ (by omega)
      have a2:¬ r*c.sz+q2<m+(ρ u).cells.toList.length:=by omega
      rw [if_neg a2,List.getElem?_drop,← hg];congr 1;omega
 exact ⟨_,F',Z,by simp [execOp,ho,e2',hr,Sem.run_bind],hi',fun _ x=>x,hk⟩
theorem sFz {todo:List Item} (j:Nat) {xs:List T} (hj:H[j]?=some (.own t0 c v xs)) (h:Sim P f n todo fr (H.set j (.fz c v xs)) x X K):Sim P f n todo fr H x X K:=by
 intro r hr w0 F0 Z0 w F Z tmps hn hi hf
 obtain ⟨F1,h1,hF,hset⟩:=HAll.give (r':=.fz c v xs) hj hi.res
 have hzz:∀ b,Z b→Z b∨F1 b:=fun _ x=>.inl x
 refine h r hr w0 F0 Z0 w (fun b=>F b∧¬ F1 b) (fun b=>Z b∨F1 b) tmps hn ?_ (hf.st hzz (Keep.refl _ _))
 exact hi.step (F1:=fun _=>False) (Step.refl _ _) (fun _ x=>x.elim) hzz (fun b x=>x.imp id fun y=>.inl (hF b y)) (fun b hb=>⟨.inl hb.1,fun x=>x.elim (hi.fin b hb.1).2.2 hb.2⟩) (hset _ hzz (own_fsl h1))
theorem td (j:Nat) {xs:List T} (hj:H[j]?=some (.own t0 c v xs)) (h:SimL P f n ops l k fr (H.set j (.fz c v xs)) x X K):SimL P f n ops l k fr H x X K:=fun is hs=>sFz j hj (h is hs)
theorem sUp {todo:List Item} (u j:Nat) {xs:List T} (hu:look fr u=some (.sv v)) (hj:H[j]?=some (.fz c v xs)) (h:Sim P f n todo ((u,.fsl c xs)::fr) H x X K):Sim P f n todo fr H x X K:=by
 intro r hr w0 F0 Z0 w F Z tmps hn hi hf
 obtain ⟨F1,h1,_⟩:=hi.res.at hj
 refine h r hr w0 F0 Z0 w F Z tmps hn hi fun t a ht=>?_
 simp only [look] at ht
 by_cases e:u=t
 ·subst e;simp at ht;subst ht
  have h2:(AV.sv v).p Z w (tmps.getD u undef):=hf u _ hu
  rw [h2.1];exact h1
 ·have:(u == t)=false:=by simpa using e
  rw [this] at ht;exact hf t a (by simpa using ht)
theorem zf (u j:Nat) {xs:List T} (hu:look fr u=some (.sv v)) (hj:H[j]?=some (.fz c v xs)) (h:SimL P f n ops l k ((u,.fsl c xs)::fr) H x X K):SimL P f n ops l k fr H x X K:=fun is hs=>sUp u j hu hj (h is hs)
theorem AllP.imp {Z:Nat→Prop} {w:World} {aS:List AV} {vs:List Value} (h:AllP Z w aS vs) {i:Nat} {a b:AV} (hi:aS[i]?=some a) (hab:∀ u,a.p Z w u→b.p Z w u):AllP Z w (aS.set i b) vs:=by
 induction h generalizing i with
 | nil=>simp at hi
 | cons h h' ih=>cases i with
  | zero=>simp at hi;subst hi;exact .cons (hab _ h) h'
  | succ i=>exact .cons h (ih (by simpa using hi))
theorem sUpB {todo:List Item} (b i j:Nat) {xs:List T} {aS:List AV} {g:Nat} (hb:H[b]?=some (.box g aS)) (hu:aS[i]?=some (.sv v)) (hj:H[j]?=some (.fz c v xs)) (h:Sim P f n todo fr (H.set b (.box g (aS.set i (.fsl c xs)))) x X K):Sim P f n todo fr H x X K:=by
 intro r hr w0 F0 Z0 w F Z tmps hn hi hf
 obtain ⟨F1,h1,_⟩:=hi.res.at hj
 obtain ⟨F',hi',_⟩:=hi.turn (w':=w) (r':=.box g (aS.set i (.fsl c xs))) hb fun G1 ⟨hg,vs,t',e1,e2⟩ _=>⟨G1,Step.refl _ _,⟨hg,vs,t',e1,e2.imp hu fun u hu=>by rw [hu.1];exact h1⟩,fun _ x=>.inl x⟩
 exact h r hr w0 F0 Z0 w F' Z tmps hn hi' hf
theorem Qc (b i j:Nat) {xs:List T} {aS:List AV} {g:Nat} (hb:H[b]?=some (.box g aS)) (hu:aS[i]?=some (.sv v)) (hj:H[j]?=some (.fz c v xs)) (h:SimL P f n ops l k fr (H.set b (.box g (aS.set i (.fsl c xs)))) x X K):SimL P f n ops l k fr H x X K:=fun is hs=>sUpB b i j hb hu hj (h is hs)
def Info (P:Program) (e:TypeId) (z:Value) (sz bytes:Nat):Prop:=(P.info? e).map (fun i=>(i.zero,i.size,i.bytes))=some (some z,sz,bytes)
theorem Info.parts {e:TypeId} {z:Value} {sz bytes:Nat} (h:Info P e z sz bytes):∃ i,P.info? e=some i∧i.zero=some z∧i.size=sz∧i.bytes=bytes:=by
 unfold Info at h
 cases hi:P.info? e with
 | none=>simp [hi] at h
 | some i=>simp [hi] at h;exact ⟨i,rfl,h.1,h.2.1,h.2.2⟩
theorem sMk {y:Operand} {kd:IntKind} {m:Int} {z:Value} {bytes:Nat} (z0:T) (ht:P.underlying t=some (.slice e)) (hi:Info P e z c.sz bytes) (hz:∀ Z w,AllP Z w (c.e z0) z.cells.toList) (hy:arg fr y=some (Ai kd m)) (h0:0≤m) (hb:(bytes:Int)*m≤281474976710656) (hb0:Nat.blt 0 bytes=true) (hdn:Nat.blt d n=true)
  (h:∀ v,SimL P f n ops l k ((d,.sv v)::fr) (.own e c v (List.replicate m.toNat z0)::H) x X K):SimL P f n ops (⟨some d,.makeSlice t y y,ty,pos,aft,none⟩::l) k fr H x X K:=by
 refine Lb (I:=Value) (fun o ho hty w0 F0 Z0 w F Z ρ hinv hf=>?_) hdn h
 have e1:ρ y=_:=hf (by simp [Op.operands]) hy
 obtain ⟨i,i1,i2,i3,i4⟩:=hi.parts
 obtain ⟨m',rfl⟩:=Int.eq_ofNat_of_zero_le h0
 have hb0':0<bytes:=by simpa [Nat.blt_eq] using hb0
 have hle:m'≤281474976710656:=by
  have:(m':Int)≤bytes*m':=by
   have:(1:Int)*m'≤bytes*m':=Int.mul_le_mul_of_nonneg_right (by omega) (by omega)
   omega
  omega
 have hr:=run_make (P:=P) w t e i z ht i1 i2 kd kd m' m' (by omega) (Int.le_refl _) (by rw [i4];exact hb) (by omega)
 simp only [Int.toNat_natCast,i3] at hr
 have hzl:=(hz (fun _=>False) w).length
 rw [c.len] at hzl
 refine ⟨.slice (some ⟨w.heap.size,0,none⟩) m' m',w.alloc (.cells (madeCells z.cells (m'*c.sz)) e),.slice (some ⟨w.heap.size,0,none⟩) m' m',_,Z,by simp [execOp,ho,e1,hr,Sem.run_bind],hinv.push _ (.own e c (.slice (some ⟨w.heap.size,0,none⟩) m' m') (List.replicate (m':Int).toNat z0)) ?_,fun _ x=>x,(Step.alloc w _ _).keep' hinv,rfl,_,_,_,rfl⟩
 simp only [Int.toNat_natCast]
 refine .inl ⟨(madeCells z.cells (m'*c.sz)).toList,⟨?_,.inr ⟨w.heap.size,m',madeCells z.cells (m'*c.sz),by simp,Nat.zero_le _,.new (heap_alloc_new w _),by simp,by rw [mx];omega,size_madeCells _ _,?_⟩⟩,fun b hb=>?_,?_⟩
 ·simp [size_madeCells]
 ·rw [List.length_replicate,List.take_of_length_le (by simp [size_madeCells])]
 ·simp [Value.ownBlock] at hb;exact hb.symm
 ·intro r q hq
  rw [List.getElem?_replicate] at hq
  split at hq
  ·rename_i hlt
   cases hq
   refine ⟨_,hz _ _,fun a u hu=>?_⟩
   have ha:a<z.cells.size:=by
    rcases Nat.lt_or_ge a z.cells.size with h | h
    ·exact h
    ·simp [h] at hu
   have hsz:z.cells.size=c.sz:=by simpa using hzl.symm
   have hlt2:r*c.sz+a<m'*c.sz:=by
    have:r*c.sz+c.sz≤m'*c.sz:=by rw [← Nat.succ_mul];exact Nat.mul_le_mul_right _ hlt
    omega
   have hmod:(r*c.sz+a) % z.cells.size=a:=by rw [hsz,Nat.mul_comm,Nat.mul_add_mod];exact Nat.mod_eq_of_lt (by omega)
   simp only [madeCells,Array.toList_map,List.getElem?_map,Array.toList_range,List.getElem?_range hlt2,Option.map_some,hmod]
   rw [Array.getElem?_toList] at hu
   rw [getElem!_pos z.cells a ha,← hu,Array.getElem?_eq_getElem ha]
  ·cases hq
def Cells (c:Co T) (Z:Nat→Prop) (w:World) (u:Value) (ys:List T):Prop:=∃ A m,u = .slice A ys.length m∧(A=none→ys=[])∧∀ a,A=some a→∃ news,news.length=ys.length*c.sz∧(∀ j z,news[j]?=some z→w.cell? (a.add j)=some z)∧Rows c Z w ys news∧∀ z ∈ news,z.oneCell'=true
theorem cells_fsl {Z:Nat→Prop} {w:World} {u:Value} {ys:List T} (h:(AV.fsl c ys).p Z w u):Cells c Z w u ys:=by
 obtain ⟨A,m,e1,hm,hel⟩:=h
 refine ⟨A,m,e1,fun hA=>?_,fun a hA=>?_⟩
 ·cases ys with
  | nil=>rfl
  | cons y ys=>obtain ⟨a,ha,_⟩:=hel 0 y rfl;rw [hA] at ha;cases ha
 ·subst hA
  have key:∀ r,r≤ys.length→∃ news:List Value,news.length=r*c.sz∧(∀ j z,news[j]?=some z→w.cell? (a.add j)=some z)∧Rows c Z w (ys.take r) news∧∀ z ∈ news,z.oneCell'=true:=by
   intro r
   induction r with
   | zero=>intro _;exact ⟨[],by simp,by simp,by intro i x hx;simp at hx,by simp⟩
   | succ r ih =>
    intro hr
    obtain ⟨news,g1,g2,g3,g4⟩:=ih (by omega)
    have hlt:r<ys.length:=by omega
    obtain ⟨a',ha,hb,vs,k1,k2⟩:=hel r ys[r] (by simp [hlt])
    cases ha
    have hvs:vs.length=c.sz:=by rw [← k1.length,c.len]
    refine ⟨news++vs,by simp [g1,hvs,Nat.succ_mul],fun q z hq=>?_,fun i x hx=>?_,fun z hz=>?_⟩
    ·rw [List.getElem?_append] at hq
     split at hq
     ·exact g2 q z hq
     ·have:=k2 _ z hq;rw [add_add] at this;rw [← this];congr 1;congr 1;omega
    ·rw [List.getElem?_take] at hx
     split at hx
     ·rename_i hi
      by_cases e:i=r
      ·subst e
       have hx':x=ys[i]:=by simpa [hlt] using hx.symm
       subst hx'
       refine ⟨vs,k1,fun q z hq=>?_⟩
       rw [List.getElem?_append_right (by omega),← hq];congr 1;omega
      ·obtain ⟨us,m1,m2⟩:=g3 i x (by rw [List.getElem?_take,if_pos (by omega)];exact hx)
       refine ⟨us,m1,fun q z hq=>?_⟩
       have:=m2 q z hq
       rw [List.getElem?_append_left (by
        rcases Nat.lt_or_ge (i*c.sz+q) news.length with h | h
        ·exact h
        ·simp [h] at this)]
       exact this
     ·cases hx
    ·rcases List.mem_append.1 hz with hz | hz
     ·exact g4 z hz
     ·exact k1.oneL (c.one _) z hz
  have:=key ys.length (Nat.le_refl _)
  simpa using this
theorem rows_append {Z:Nat→Prop} {w:World} {xs ys:List T} {cs ds:List Value} (h:Rows c Z w xs cs) (h':Rows c Z w ys ds) (hl:cs.length=xs.length*c.sz):Rows c Z w (xs++ys) (cs++ds):=by
 intro i x hx
 rw [List.getElem?_append] at hx
 split at hx
 ·obtain ⟨vs,g1,g2⟩:=h i x hx
  refine ⟨vs,g1,fun q z hq=>?_⟩
  have:=g2 q z hq
  rw [List.getElem?_append_left (by
   rcases Nat.lt_or_ge (i*c.sz+q) cs.length with h | h
   ·exact h
   ·simp [h] at this)]
  exact this
 ·rename_i hi
  obtain ⟨vs,g1,g2⟩:=h' _ x hx
  refine ⟨vs,g1,fun q z hq=>?_⟩
  have:=g2 q z hq
  have hm:xs.length*c.sz≤i*c.sz:=Nat.mul_le_mul_right _ (by omega)
  have hs:(i-xs.length)*c.sz=i*c.sz-xs.length*c.sz:=Nat.sub_mul _ _ _
  rw [List.getElem?_append_right (by omega),← this];congr 1;omega
theorem append_empty {w:World} {i:TypeInfo} {z:Value} {sz bytes:Nat} {B a:Addr} {m:Nat} {u:Value} {ys:List T} {news:List Value} (ht:P.underlying t=some (.slice e)) (i1:P.info? e=some i) (i2:i.zero=some z) (i3:i.size=sz) (i4:i.bytes=bytes) (hy:ys≠[]) (hb:ys.length*bytes≤140737488355328) (g1:news.length=ys.length*sz) (g2:∀ j v,news[j]?=some v→w.cell? (a.add j)=some v) (hu:u = .slice (some a) ys.length m) (hb0:0<bytes) :
  (Builtin.append_ #[t,t] ty #[.slice (some B) 0 0,u]).run P w=(Builtin.append_ #[t,t] ty #[.slice none 0 0,u]).run P w:=by
 subst hu i3 i4
 have hl:0<ys.length:=List.length_pos_iff.2 hy
 have hle:ys.length*1≤ys.length*i.bytes:=Nat.mul_le_mul_left _ hb0
 rw [run_append_grow (P:=P) w t ty e i z ht i1 i2 B 0 0 [] (by simp) (by simp) a ys.length m news g1 g2 (by omega) (by omega) (growslice_fits (by omega) (by simpa using hb))]
 rw [run_append_nil (P:=P) w t ty e i z ht i1 i2 a ys.length m news g1 g2 (by omega) (by omega) (by omega)]
 simp
theorem run_append_row (w:World) (t ty e:TypeId) (i:TypeInfo) (z:Value) (size bytes:Nat) (ht:P.underlying t=some (.slice e)) (hi:P.info? e=some i) (hz:i.zero=some z)
  (hsize:i.size=size) (hby:i.bytes=bytes) (hzs:z.cells.size=size) (hsz:0<size) (v:Value) (n:Nat) (xs:List Value) (hown:rowOwn w e size v n xs)
  (a:Addr) (m c:Nat) (news:List Value) (hl:news.length=m*size) (hnews:∀ j u,news[j]?=some u→w.cell? (a.add j)=some u) (h1:∀ u ∈ news,u.oneCell'=true)
  (h63:n+m≤maxLen) (hbytes:(n+m)*bytes≤140737488355328) :
  ∃ v' w',(Builtin.append_ #[t,t] ty #[v,.slice (some a) m c]).run P w = .ok v' w'∧rowOwn w' e size v' (n+m) (xs++news)∧w.grownBy w' v.ownBlock∧(v'.ownBlock=v.ownBlock∨v'.ownBlock=some w.heap.size):=by
 have hlen:(xs++news).length=(n+m)*size:=by rw [List.length_append,hown.1,hl,Nat.add_mul]
 have plain:w.ownsRow 0 e size v n xs→∃ v' w',(Builtin.append_ #[t,t] ty #[v,.slice (some a) m c]).run P w = .ok v' w'∧rowOwn w' e size v' (n+m) (xs++news)∧w.grownBy w' v.ownBlock∧(v'.ownBlock=v.ownBlock∨v'.ownBlock=some w.heap.size):=fun h=>by
  obtain ⟨v',w',r1,r2,r3,_,r5⟩:=run_append_own_at (P:=P) w 0 t ty e i z size bytes ht hi hz hsize hby hzs hsz v n xs h a m c news hl hnews h1 h63 hbytes (Nat.zero_le _)
  exact ⟨v',w',r1,rowOwn_of r2,r3,r5⟩
 rcases hown.2 with ⟨rfl,rfl⟩ | ⟨g,cap,cur,rfl,hbg,⟨fz,hg,hfz⟩,hnc,hcm,hcs,htake⟩
 ·exact plain ⟨hown.1,.inl ⟨rfl,rfl⟩⟩
 ·rcases hfz with rfl | hfz
  ·exact plain ⟨hown.1,.inr ⟨g,cap,cur,rfl,hbg,hg,hnc,hcm,hcs,htake⟩⟩
  have hsmall:n+m≤9223372036854775807:=by simp only [maxLen] at h63;omega
  subst hsize hby
  by_cases hroom:n+m≤cap
  ·have hfit:n*i.size+news.length≤cur.size:=by rw [hl,hcs,← Nat.add_mul];exact Nat.mul_le_mul_right _ hroom
   have hf:=run_firstCells_some (P:=P) w i.size m a m c news hl hnews
   have hst:=run_storeCells_fz (P:=P) g (n*i.size) e fz news 0 cur w hg (.inr hfz) (by simpa using hfit) h1
   simp only [Nat.add_zero] at hst
   have hr:(Builtin.append_ #[t,t] ty #[.slice (some ⟨g,0,none⟩) n cap,.slice (some a) m c]).run P w =
     .ok (.slice (some ⟨g,0,none⟩) (n+m) cap) (w.setRow g (cur.toList.take (n*i.size)++news++cur.toList.drop (n*i.size+news.length)).toArray):=by
    simp [Builtin.append_,run_underlying ht,sizeOf,typeInfo,hi,Builtin.lenOf,hroom,hf,Addr.add_lit,hst]
   have hsame:(cur.toList.take (n*i.size)++news++cur.toList.drop (n*i.size+news.length)).toArray.size=cur.size:=by
    simp only [List.size_toArray,List.length_append,List.length_take,List.length_drop,Array.length_toList];omega
   refine ⟨_,_,hr,⟨hlen,.inr ⟨g,cap,_,rfl,hbg,⟨fz,setRow_heap w g cur _ e _ hg,by rw [hsame];exact .inr hfz⟩,hroom,hcm,by rw [hsame];exact hcs,?_⟩⟩,⟨rfl,rfl,rfl,by simp,fun k _ hk=>setRow_other w g k _ (fun e=>hk (by simp [Value.ownBlock,e]))⟩,Or.inl rfl⟩
   rw [htake,← hlen]
   exact List.take_left
  ·have holds:∀ j u,xs[j]?=some u→w.cell? ((⟨g,0,none⟩:Addr).add j)=some u:=by
    intro j u hu
    rw [Addr.add_lit,cell_of_row w g _ cur e fz hg]
    rw [← htake,List.getElem?_take] at hu
    split at hu
    ·simpa using hu
    ·cases hu
   have hr:=run_append_grow (P:=P) w t ty e i z ht hi hz ⟨g,0,none⟩ n cap xs hown.1 holds a m c news hl hnews (by omega) (by omega) (growslice_fits (by omega) hbytes)
   have hge:=grownCap_ge w (n+m) cap e
   have hcm:=grownCap_le_maxLen w (n+m) cap e h63
   refine ⟨_,_,hr,⟨hlen,.inr ⟨w.heap.size,_,_,rfl,Nat.zero_le _,.new (heap_alloc_new w.drew _),hge,hcm,?_,?_⟩⟩,⟨rfl,rfl,rfl,by simp,fun k hk _=>Below.heap_alloc w.drew _ k hk⟩,Or.inr rfl⟩
   ·simp only [Array.size_append,List.size_toArray,size_zeroCells,hzs,hown.1,hl,← Nat.add_mul]
    congr 1
    omega
   ·simp only [Array.toList_append,List.append_assoc]
    rw [← List.append_assoc,← hlen]
    exact List.take_left
theorem append_own {w0 w:World} {F0 Z0 F Z:Nat→Prop} {u:Value} {ys:List T} {z:Value} {bytes:Nat} (hi:Inv w0 w F0 Z0 F Z H) (ht:P.underlying t=some (.slice e)) (hinfo:Info P e z c.sz bytes) (hzs:z.cells.size=c.sz) (hj:H[j]?=some (.own e c v xs)) (hc:Cells c Z w u ys) (hb:(xs.length+ys.length)*bytes≤140737488355328) (hb0:0<bytes) :
  ∃ v' w' F',(Builtin.append_ #[t,t] ty #[v,u]).run P w = .ok v' w'∧Inv w0 w' F0 Z0 F' Z (H.set j (.own e c v' (xs++ys)))∧Keep Z w w'∧∃ A n m,v' = .slice A n m:=by
 obtain ⟨i,i1,i2,i3,i4⟩:=hinfo.parts
 obtain ⟨A,m,hu,hA,hA'⟩:=hc
 obtain ⟨F1,hown,hF1⟩:=hi.res.at hj
 obtain ⟨A1,m1,hv1⟩:=own_sv hown
 cases A with
 | none =>
  have hys:=hA rfl
  subst hys hu
  obtain ⟨F',hi',hk⟩:=hi.turn (w':=w) (r':=.own e c v (xs++[])) hj fun G1 h1 _=>⟨G1,Step.refl _ _,by rw [List.append_nil];exact h1,fun _ x=>.inl x⟩
  refine ⟨v,w,F',?_,hi',hk,A1,_,m1,hv1⟩
  obtain ⟨cs,hr,_,_⟩ | ⟨rfl,A,rfl⟩:=hown
  case inr=>cases A <;> simp [Builtin.append_,run_underlying ht,sizeOf,typeInfo,i1,Builtin.lenOf,Builtin.firstCells,storeCells]
  rcases hr.2 with ⟨rfl,hn⟩ | ⟨g,cap,cur,rfl,_,_,hnc,_⟩
  ·simp [Builtin.append_,run_underlying ht,sizeOf,typeInfo,i1,Builtin.lenOf,Builtin.firstCells]
  ·simp [Builtin.append_,run_underlying ht,sizeOf,typeInfo,i1,Builtin.lenOf,Builtin.firstCells,hnc,storeCells]
 | some a =>
  obtain ⟨news,g1,g2,g3,g4⟩:=hA' a rfl
  have hle:(xs.length+ys.length)*1≤(xs.length+ys.length)*bytes:=Nat.mul_le_mul_left _ hb0
  by_cases hz0:ys=[]∧∃ B,v = .slice B 0 0
  ·obtain ⟨rfl,B,rfl⟩:=hz0
   obtain ⟨F',hi',hk⟩:=hi.turn (w':=w) (r':=.own e c (.slice B 0 0) (xs++[])) hj fun G1 h1 _=>⟨G1,Step.refl _ _,by rw [List.append_nil];exact h1,fun _ x=>.inl x⟩
   refine ⟨_,w,F',?_,hi',hk,_,_,_,rfl⟩
   subst hu
   have hn0:news=[]:=List.eq_nil_of_length_eq_zero (by simpa using g1)
   cases B <;> simp [Builtin.append_,run_underlying ht,sizeOf,typeInfo,i1,Builtin.lenOf,Builtin.firstCells,storeCells,loadCells,loadCellsFrom]
  have hv0:∃ v0 cs,rowOwn w e c.sz v0 xs.length cs∧Rows c Z w xs cs∧(∀ G1,(Res.own e c v xs).h Z w G1→∀ b,v0.ownBlock=some b→G1 b)∧(Builtin.append_ #[t,t] ty #[v,u]).run P w=(Builtin.append_ #[t,t] ty #[v0,u]).run P w:=by
   obtain ⟨cs,hr,hbk,hrows⟩ | ⟨rfl,B,rfl⟩:=hown
   ·by_cases h0:∃ B,v = .slice B 0 0
    ·obtain ⟨B,rfl⟩:=h0
     rcases hr.2 with ⟨hv,hn⟩ | ⟨g,cap,cur,hv,_,_,hnc,_⟩
     ·simp at hv;subst hv
      exact ⟨_,cs,hr,hrows,fun G1 _ b hb=>by simp [Value.ownBlock] at hb,rfl⟩
     ·simp at hv
      obtain ⟨rfl,hv2,rfl⟩:=hv
      have hx:xs=[]:=List.eq_nil_of_length_eq_zero hv2.symm
      subst hx
      have hc0:cs=[]:=List.eq_nil_of_length_eq_zero (by simpa using hr.1)
      subst hc0
      refine ⟨.slice none 0 0,[],⟨by simp,.inl ⟨rfl,rfl⟩⟩,hrows,fun G1 _ b hb=>by simp [Value.ownBlock] at hb,?_⟩
      exact append_empty ht i1 i2 i3 i4 (by intro h;subst h;exact hz0 ⟨rfl,_,rfl⟩) (by simpa using hb) g1 g2 hu hb0
    ·refine ⟨v,cs,hr,hrows,fun G1 hg b hb=>?_,rfl⟩
     obtain ⟨_,_,hbk',_⟩ | ⟨_,B,hB⟩:=hg
     ·exact hbk' b hb
     ·exact (h0 ⟨B,hB⟩).elim
   ·refine ⟨.slice none 0 0,[],⟨by simp,.inl ⟨rfl,rfl⟩⟩,by intro i x hx;simp at hx,fun G1 _ b hb=>by simp [Value.ownBlock] at hb,?_⟩
    cases B with
    | none=>rfl
    | some B=>exact append_empty ht i1 i2 i3 i4 (by intro h;subst h;exact hz0 ⟨rfl,_,rfl⟩) (by simpa using hb) g1 g2 hu hb0
  obtain ⟨v0,cs,hr,hrows,hbk,hrun⟩:=hv0
  obtain ⟨v',w',r1,r2,r3,r5⟩:=run_append_row (P:=P) w t ty e i z c.sz bytes ht i1 i2 i3 i4 hzs c.pos v0 xs.length cs hr a ys.length m news g1 g2 g4 (by rw [mx];omega) hb
  rw [← hu,← hrun] at r1
  obtain ⟨F',hi',hk⟩:=hi.turn (w':=w') (r':=.own e c v' (xs++ys)) hj fun G1 hown' hz1=>by
   have hbk':=hbk G1 hown'
   have s:=Step.of_grown r3 (run_drawn _ r1) G1 hbk'
   have hkz:Keep Z w w':=fun b hz=>s.keep b (hz1 b hz).1 (hz1 b hz).2
   refine ⟨fun b=>G1 b∨(w.heap.size≤b∧b<w'.heap.size),s,.inl ⟨cs++news,by rw [List.length_append];exact r2,fun b hb=>?_,(rows_append hrows g3 hr.1).st (fun _ x=>x) hkz⟩,fun _ x=>x⟩
   rcases r5 with e5 | e5
   ·exact .inl (hbk' b (e5 ▸ hb))
   ·rw [e5] at hb;cases hb
    refine .inr ⟨Nat.le_refl _,?_⟩
    rcases r2.2 with ⟨hv,_⟩ | ⟨g,cap,cur,hv,_,hh,_⟩
    ·rw [hv] at e5;cases e5
    ·rw [hv] at e5;simp [Value.ownBlock] at e5;subst e5
     obtain ⟨fz,hh,_⟩:=hh
     exact (Array.getElem?_eq_some_iff.1 hh).1
  refine ⟨v',w',F',r1,hi',hk,?_⟩
  rcases r2.2 with ⟨hv,_⟩ | ⟨g,cap,cur,hv,_⟩
  ·exact ⟨_,_,_,hv⟩
  ·exact ⟨_,_,_,hv⟩
theorem sAp {y u:Operand} {ys:List T} {z:Value} {bytes:Nat} (ht:P.underlying t=some (.slice e)) (hinfo:Info P e z c.sz bytes) (hzs:z.cells.size=c.sz) (hy:arg fr y=some (.sv v)) (hj:H[j]?=some (.own e c v xs)) (hu:arg fr u=some (.fsl c ys)) (hb:(xs.length+ys.length)*bytes≤140737488355328) (hb0:Nat.blt 0 bytes=true) (hdn:Nat.blt d n=true)
  (h:∀ v',SimL P f n ops l k ((d,.sv v')::fr) (H.set j (.own e c v' (xs++ys))) x X K):SimL P f n ops (⟨some d,.call ⟨.builtin .append,#[y,u],#[t,t]⟩,ty,pos,aft,none⟩::l) k fr H x X K:=by
 refine Lb (I:=Value) (fun o ho hty w0 F0 Z0 w F Z ρ hinv hf=>?_) hdn h
 obtain ⟨e1,_⟩:=hf (by simp [Op.operands,Call.operands]) hy
 have e2:=cells_fsl (hf (by simp [Op.operands,Call.operands]) hu)
 obtain ⟨v',w',F',hr,hi',hk,hsl⟩:=append_own (ty:=ty) hinv ht hinfo hzs hj e2 hb (by simpa [Nat.blt_eq] using hb0)
 exact ⟨v',w',v',F',Z,by simp [execOp,ho,hty,e1,hr,resolve,invoke,builtin,Sem.run_bind],hi',fun _ x=>x,hk,rfl,hsl⟩
theorem cc {todo:List Item} (u:Nat) (e:TypeId) (c:Co T) (hu:look fr u=some (.lit (.slice none 0 0))) (h:∀ v,Sim P f n todo ((u,.sv v)::fr) (.own e c v []::H) x X K):Sim P f n todo fr H x X K:=by
 intro r hr w0 F0 Z0 w F Z tmps hn hi hf
 refine h (.slice none 0 0) r hr w0 F0 Z0 w F Z tmps hn ?_ fun t a ht=>?_
 ·refine ⟨hi.base,hi.z0,hi.zin,hi.fin,fun _=>False,F,.inr ⟨rfl,none,rfl⟩,hi.res,fun b hb=>hb.elim,fun b hb=>hb⟩
 ·simp only [look] at ht
  by_cases e:u=t
  ·subst e;simp at ht;subst ht
   exact ⟨hf u _ hu,_,_,_,rfl⟩
  ·have:(u == t)=false:=by simpa using e
   rw [this] at ht;exact hf t a (by simpa using ht)
def AV.es:AV:=⟨fun _ _ v=>∃ A,v = .slice A 0 0,fun _ _ h=>h⟩
theorem sEs {todo:List Item} (u:Nat) (e:TypeId) (c:Co T) (hu:look fr u=some .es) (h:∀ v,Sim P f n todo ((u,.sv v)::fr) (.own e c v []::H) x X K):Sim P f n todo fr H x X K:=by
 intro r hr w0 F0 Z0 w F Z tmps hn hi hf
 obtain ⟨A,hA⟩:=hf u _ hu
 refine h (.slice A 0 0) r hr w0 F0 Z0 w F Z tmps hn ?_ fun t a ht=>?_
 ·refine ⟨hi.base,hi.z0,hi.zin,hi.fin,fun _=>False,F,.inr ⟨rfl,A,rfl⟩,hi.res,fun b hb=>hb.elim,fun b hb=>hb⟩
 ·simp only [look] at ht
  by_cases e:u=t
  ·subst e;simp at ht;subst ht
   exact ⟨hA,_,_,_,rfl⟩
  ·have:(u == t)=false:=by simpa using e
   rw [this] at ht;exact hf t a (by simpa using ht)
theorem sEsL (u:Nat) (e:TypeId) (c:Co T) (hu:look fr u=some .es) (h:∀ v,SimL P f n ops l k ((u,.sv v)::fr) (.own e c v []::H) x X K):SimL P f n ops l k fr H x X K:=fun is hs=>sEs u e c hu fun v=>h v is hs
theorem Lf (u:Nat) (e:TypeId) (c:Co T) (hu:look fr u=some (.lit (.slice none 0 0))) (h:∀ v,SimL P f n ops l k ((u,.sv v)::fr) (.own e c v []::H) x X K):SimL P f n ops l k fr H x X K:=fun is hs=>cc u e c hu fun v=>h v is hs
def sl (xs:List T) (a b:Int):List T:=(xs.take b.toNat).drop a.toNat
theorem fsl_cut {Z:Nat→Prop} {w:World} {A:Option Addr} {m:Nat} {a b:Nat} (h:(AV.fsl c xs).p Z w (.slice A xs.length m)) (hab:a≤b) (hb:b≤xs.length):(AV.fsl c ((xs.take b).drop a)).p Z w (.slice (if m=a then A else A.map (·.add (a*c.sz))) (b-a) (m-a)):=by
 obtain ⟨A',m',e1,hm,hel⟩:=h
 cases e1
 have hl:((xs.take b).drop a).length=b-a:=by simp;omega
 refine ⟨_,_,by rw [hl],by omega,fun i x hx=>?_⟩
 rw [List.getElem?_drop,List.getElem?_take] at hx
 split at hx
 ·obtain ⟨ad,hA,hz,hat⟩:=hel _ x hx
  have hlt:a+i<xs.length:=by
   rcases Nat.lt_or_ge (a+i) xs.length with h | h
   ·exact h
   ·simp [h] at hx
  have hne:m≠a:=by omega
  rw [if_neg hne,hA]
  exact ⟨_,rfl,by rw [add_block];exact hz,by rw [add_add,← Nat.add_mul];exact hat⟩
 ·cases hx
theorem dSlR {y b:Operand} {kb:IntKind} {m:Int} (ht:P.underlying t=some (.slice e)) (hsz:SizeIs P e c.sz) (hy:arg fr y=some (.fsl c xs)) (hb:arg fr b=some (Ai kb m)) (h1:0≤m) (h2:m≤xs.length):D P n H (.slice t y none (some b) none) ty fr (.fsl c (sl xs 0 m)) :=
 .of fun o ho hty w Z F ρ hH hf=>by
  have hp:=hf (by simp [Op.operands]) hy
  have e3:ρ b=_:=hf (by simp [Op.operands]) hb
  have hp':=hp
  obtain ⟨A,q,e1,hq,_⟩:=hp'
  rw [e1] at hp
  have g1:m≤(q:Int):=by omega
  refine ⟨_,?_,fsl_cut hp (a:=0) (b:=m.toNat) (by omega) (by omega)⟩
  simp [execOp,ho,e1,e3,Instr.sliceAt,Instr.slice,Instr.sliceBounds,Instr.sliceBound,run_underlying ht,hsz _,Sem.run_bind,asIntOf,g1,h1]
theorem dSlL {y a:Operand} {ka:IntKind} {i:Int} (ht:P.underlying t=some (.slice e)) (hsz:SizeIs P e c.sz) (hy:arg fr y=some (.fsl c xs)) (ha:arg fr a=some (Ai ka i)) (h0:0≤i) (h1:i≤xs.length):D P n H (.slice t y (some a) none none) ty fr (.fsl c (sl xs i xs.length)) :=
 .of fun o ho hty w Z F ρ hH hf=>by
  have hp:=hf (by simp [Op.operands]) hy
  have e2:ρ a=_:=hf (by simp [Op.operands]) ha
  have hp':=hp
  obtain ⟨A,q,e1,hq,_⟩:=hp'
  rw [e1] at hp
  refine ⟨_,?_,fsl_cut hp (a:=i.toNat) (b:=xs.length) (by omega) (by omega)⟩
  simp [execOp,ho,e1,e2,Instr.sliceAt,Instr.slice,Instr.sliceBounds,Instr.sliceBound,run_underlying ht,hsz _,Sem.run_bind,asIntOf,h0,h1]
end
end S
namespace S
open Go.RowKit
set_option linter.unusedVariables false
set_option linter.unusedSimpArgs false
def Ent (P:Program) (g:FuncId):Prop:=∀ args w,(callFunc g args).run P w = .ok (.enter g args) w
def Flat (a:AV):Prop:=∀ Z w Z' w' v,a.p Z w v→a.p Z' w' v
theorem flLit {v:Value}:Flat (.lit v):=fun _ _ _ _ _ h=>h
def FlatL:List AV→Prop
 | []=>True
 | a::aS=>Flat a∧FlatL aS
theorem flL {aS:List AV} (h:FlatL aS) {Z w Z' w'} {vs:List Value} (hv:AllP Z w aS vs):AllP Z' w' aS vs:=by
 induction hv with
 | nil=>exact .nil
 | cons h1 _ ih=>exact .cons (h.1 _ _ _ _ _ h1) (ih h.2)
theorem flTup {aS:List AV} (h:FlatL aS):Flat (.tup aS):=fun Z w Z' w' _ ⟨vs,e,h1⟩=>⟨vs,e,flL h h1⟩
section
variable {P:Program} {f:FuncId} {n:Nat} {ops:Array Oper} {l:List Oper} {k:List Item} {fr:Fr} {H:List Res} {ρ R:Type} {x:Option ρ} {X:ρ→Option R} {K:R→AV→List Res→Prop} {ty t t' e:TypeId} {d:Nat} {pos:String} {aft:Array Edge}
inductive Args (fr:Fr) (H:List Res):List Operand→List AV→Prop
 | nil:Args fr H [] []
 | s {x:Operand} {a:AV} {xs:List Operand} {aS:List AV}:arg fr x=some a→Args fr H xs aS→Args fr H (x::xs) (a::aS)
 | o {T:Type} {x:Operand} {t:TypeId} {c:Co T} {v:Value} {ys:List T} {xs:List Operand} {aS:List AV} (j:Nat):arg fr x=some (.sv v)→H[j]?=some (.own t c v ys)→Args fr H xs aS→Args fr H (x::xs) (.fsl c ys::aS)
 | z {T:Type} {x:Operand} {c:Co T} {v:Value} {ys:List T} {xs:List Operand} {aS:List AV} (j:Nat):arg fr x=some (.sv v)→H[j]?=some (.fz c v ys)→Args fr H xs aS→Args fr H (x::xs) (.fsl c ys::aS)
 | b {x:Operand} {b:Nat} {cs:List AV} {xs:List Operand} {aS:List AV} (j:Nat):arg fr x=some (.lit (.pointer (some ⟨b,0,none⟩)))→H[j]?=some (.box b cs)→Args fr H xs aS→Args fr H (x::xs) (.fptr cs::aS)
 | n {T:Type} {x:Operand} (c:Co T) {xs:List Operand} {aS:List AV}:arg fr x=some (.lit (.slice none 0 0))→Args fr H xs aS→Args fr H (x::xs) (.fsl c []::aS)
 | g {x:Operand} {a0 a:AV} {xs:List Operand} {aS:List AV}:arg fr x=some a0→(∀ {Z F:Nat→Prop} {w:World} {u:Value},HAll H Z w F→a0.p Z w u→a.p (fun b=>Z b∨F b) w u)→Args fr H xs aS→Args fr H (x::xs) (a::aS)
theorem nil_fsl {T:Type} (c:Co T) (Z:Nat→Prop) (w:World):(AV.fsl c ([]:List T)).p Z w (.slice none 0 0):=⟨none,0,rfl,by simp,by intro i x hx;simp at hx⟩
theorem args_ok {xs:List Operand} {aS:List AV} (h:Args fr H xs aS) {Z F:Nat→Prop} {w:World} {ρ:Operand→Value} (hH:HAll H Z w F) (hf:∀ {x:Operand} {a:AV},x ∈ xs→arg fr x=some a→a.p Z w (ρ x)):AllP (fun b=>Z b∨F b) w aS (xs.map ρ):=by
 have hzz:∀ b,Z b→Z b∨F b:=fun _ x=>.inl x
 induction h with
 | nil=>exact .nil
 | s hx _ ih=>exact .cons (AV.st _ hzz (Keep.refl _ _) (hf (by simp) hx)) (ih fun hm hx=>hf (by simp [hm]) hx)
 | o j hx hj _ ih =>
  refine .cons ?_ (ih fun hm hx=>hf (by simp [hm]) hx)
  obtain ⟨e1,_⟩:=hf (by simp) hx
  obtain ⟨F1,h1,hF⟩:=hH.at hj
  rw [e1]
  exact AV.st _ (fun b hb=>hb.imp id (hF b)) (Keep.refl _ _) (own_fsl h1)
 | z j hx hj _ ih =>
  refine .cons ?_ (ih fun hm hx=>hf (by simp [hm]) hx)
  obtain ⟨e1,_⟩:=hf (by simp) hx
  obtain ⟨F1,h1,hF⟩:=hH.at hj
  rw [e1]
  exact AV.st _ hzz (Keep.refl _ _) h1
 | b j hx hj _ ih =>
  refine .cons ?_ (ih fun hm hx=>hf (by simp [hm]) hx)
  have e1:ρ _=_:=hf (by simp) hx
  obtain ⟨F1,⟨hb,vs,t',h1,h2⟩,hF⟩:=hH.at hj
  rw [e1]
  exact ⟨_,rfl,.inr (hF _ hb),vs,h2.st hzz (Keep.refl _ _),fun i u hu=>by rw [Addr.add_lit,cell_of_row _ _ _ _ _ _ h1];simpa using hu⟩
 | n c hx _ ih =>
  refine .cons ?_ (ih fun hm hx=>hf (by simp [hm]) hx)
  have e1:ρ _=_:=hf (by simp) hx
  rw [e1];exact nil_fsl c _ _
 | g hx hg _ ih=>exact .cons (hg hH (hf (by simp) hx)) (ih fun hm hx=>hf (by simp [hm]) hx)
theorem sNF {T:Type} {todo:List Item} (u:Nat) (c:Co T) (hu:look fr u=some (.lit (.slice none 0 0))) (h:Sim P f n todo ((u,.fsl c [])::fr) H x X K):Sim P f n todo fr H x X K:=by
 intro r hr w0 F0 Z0 w F Z tmps hn hi hf
 refine h r hr w0 F0 Z0 w F Z tmps hn hi fun t a ht=>?_
 simp only [look] at ht
 by_cases e:u=t
 ·subst e;simp at ht;subst ht
  have h2:tmps.getD u undef=_:=hf u _ hu
  rw [h2];exact nil_fsl c _ _
 ·have:(u == t)=false:=by simpa using e
  rw [this] at ht;exact hf t a (by simpa using ht)
theorem call_run {o:Oper} {g:FuncId} {args:Array Operand} {ts:Array TypeId} {w:World} {ρ:Operand→Value} (hρ:∀ f,ρ (.func f) = .func (.func f) #[] #[]) (ho:o.op = .call ⟨.value (.func g),args,ts⟩) (hg:Ent P g):(execOp ρ o).run P w = .ok (.enter g (args.toList.map ρ).toArray) w:=by
 have:=hg (args.map ρ) w
 simp only [execOp,ho,resolve,hρ,Deferred.ofValue,invoke,Sem.run_bind,Sem.run_pure,Result.andThen_ok,Array.append_empty,this,Array.empty_append]
 congr 2
 apply Array.ext'
 simp
inductive ArgsS (fr:Fr):List Operand→List AV→Prop
 | nil:ArgsS fr [] []
 | s {x:Operand} {a:AV} {xs:List Operand} {aS:List AV}:arg fr x=some a→ArgsS fr xs aS→ArgsS fr (x::xs) (a::aS)
 | n {T:Type} {x:Operand} (c:Co T) {xs:List Operand} {aS:List AV}:arg fr x=some (.lit (.slice none 0 0))→ArgsS fr xs aS→ArgsS fr (x::xs) (.fsl c []::aS)
theorem argsS_ok {xs:List Operand} {aS:List AV} (h:ArgsS fr xs aS) {Z:Nat→Prop} {w:World} {ρ:Operand→Value} (hf:∀ {x:Operand} {a:AV},x ∈ xs→arg fr x=some a→a.p Z w (ρ x)):AllP Z w aS (xs.map ρ):=by
 induction h with
 | nil=>exact .nil
 | s hx _ ih=>exact .cons (hf (by simp) hx) (ih fun hm hx=>hf (by simp [hm]) hx)
 | n c hx _ ih =>
  refine .cons ?_ (ih fun hm hx=>hf (by simp [hm]) hx)
  have e1:ρ _=_:=hf (by simp) hx
  rw [e1];exact nil_fsl c _ _
theorem inv_enter {w0 w:World} {F0 Z0 F Z:Nat→Prop} (h:Inv w0 w F0 Z0 F Z H):Inv w w (fun _=>False) Z (fun _=>False) Z [] :=
 ⟨Base.refl _ _,fun _ x=>x,fun b hb=>⟨(h.zin b hb).1,.inl hb⟩,fun _ x=>x.elim,trivial⟩
theorem J4 {g:FuncId} {args:Array Operand} {ts:Array TypeId} {avs:List AV} {Q:Type} {y:Option Q} {en:Q→AV} {r:Q} (hg:Ent P g) (hp:Pure P g avs y en) (hy:y=some r) (ha:ArgsS fr args.toList avs):D P n H (.call ⟨.value (.func g),args,ts⟩) ty fr (en r):=by
 intro o ho hty w0 F0 Z0 w F Z tmps hn hi hf
 have hargs:=argsS_ok (ρ:=(⟨tmps,[]⟩:Act).eval) ha fun {x a} hm hx=>arg_ok hf hx (by simp [Op.operands,Call.operands];exact .inr (by simpa using hm))
 refine .inr ⟨g,_,w,_,call_run (fun _=>rfl) ho hg,hp r hy w (fun _=>False) Z _ hargs (inv_enter hi),?_⟩
 rintro e w'' ⟨v,rfl,F',Z',av,H',⟨rfl,rfl⟩,hinv,hv⟩
 refine ⟨v,rfl,Z',hinv.z0,fun b hb=>?_,⟨hinv.base.os,hinv.base.tape,hinv.base.output,hinv.base.drawn,hinv.base.size,fun b hb _=>hinv.base.keep b hb id⟩,hv⟩
 have:=hinv.zin b hb
 exact this.2.elim .inl fun y=>y.elim (fun z=>z.elim) fun z=>.inr ⟨z,this.1⟩
theorem Pb {g:FuncId} {args:Array Operand} {ts:Array TypeId} {avs:List AV} {Q:Type} {y:Option Q} {en:Q→AV} {r:Q} (hg:Ent P g) (hp:Pure P g avs y en) (hy:y=some r) (hfl:Flat (en r)) (ha:Args fr H args.toList avs):D P n H (.call ⟨.value (.func g),args,ts⟩) ty fr (en r):=by
 intro o ho hty w0 F0 Z0 w F Z tmps hn hi hf
 have hargs:=args_ok (ρ:=(⟨tmps,[]⟩:Act).eval) ha hi.res fun {x a} hm hx=>arg_ok hf hx (by simp [Op.operands,Call.operands];exact .inr (by simpa using hm))
 refine .inr ⟨g,_,w,_,call_run (fun _=>rfl) ho hg,hp r hy w (fun _=>False) (fun b=>Z b∨F b) _ hargs ⟨Base.refl _ _,fun _ x=>x,fun b hb=>⟨hb.elim (fun x=>(hi.zin b x).1) (fun x=>(hi.fin b x).1),.inl hb⟩,fun _ x=>x.elim,trivial⟩,?_⟩
 rintro e w'' ⟨v,rfl,F',Z',av,H',⟨rfl,rfl⟩,hinv,hv⟩
 exact ⟨v,rfl,Z,fun _ x=>x,fun _ x=>.inl x,⟨hinv.base.os,hinv.base.tape,hinv.base.output,hinv.base.drawn,hinv.base.size,fun b hb _=>hinv.base.keep b hb id⟩,hfl _ _ _ _ _ hv⟩
theorem HAll.append {H':List Res} {Z F F':Nat→Prop} {w:World} (h:HAll H Z w F) (h':HAll H' Z w F') (hd:∀ b,F b→¬ F' b):HAll (H++H') Z w (fun b=>F b∨F' b):=by
 induction H generalizing F with
 | nil=>exact h'.wide fun _ x=>.inr x
 | cons r rs ih =>
  obtain ⟨F1,F2,h1,h2,d1,d2⟩:=h
  refine ⟨F1,fun b=>F2 b∨F' b,h1,ih h2 (fun b hb=>hd b (d2 b hb)),fun b hb=>⟨.inl (d1 b hb).1,fun y=>y.elim (d1 b hb).2 (hd b (d1 b hb).1)⟩,fun b hb=>hb.imp (d2 b) id⟩
def Fresh (P:Program) (g:FuncId) (avs:List AV) {Q:Type} (y:Option Q) (A:Q→List Value→AV) (B:Q→List Value→List Res):Prop:=∀ r,y=some r→Spec P g avs [] fun a H=>∃ vs,a=A r vs∧H=B r vs
theorem jf {g:FuncId} {args:Array Operand} {ts:Array TypeId} {avs:List AV} {Q:Type} {y:Option Q} {A:Q→List Value→AV} {B:Q→List Value→List Res} {r:Q} (hg:Ent P g) (hp:Fresh P g avs y A B) (hy:y=some r) (ha:ArgsS fr args.toList avs) (hdn:Nat.blt d n=true)
  (h:∀ vs,SimL P f n ops l k ((d,A r vs)::fr) (B r vs++H) x X K):SimL P f n ops (⟨some d,.call ⟨.value (.func g),args,ts⟩,ty,pos,aft,none⟩::l) k fr H x X K:=by
 intro is hs r' hr w0 F0 Z0 w F Z tmps hn hi hf
 cases is with
 | nil=>simp at hs
 | cons i is =>
  simp only [List.map_cons,List.cons.injEq] at hs
  have hdn':d<n:=by simpa [Nat.blt_eq] using hdn
  have hargs:=argsS_ok (ρ:=(⟨tmps,[]⟩:Act).eval) ha fun {x a} hm hx=>by
   cases x with
   | tmp t=>exact hf t a hx
   | const v=>simp [arg] at hx;subst hx;rfl
   | func g=>simp [arg] at hx;subst hx;rfl
   | global g=>simp [arg] at hx;subst hx;rfl
  refine .enter hs.1 (wanted_none rfl) (call_run (fun _=>rfl) rfl hg) (hp r hy w (fun _=>False) Z _ hargs (inv_enter hi)) ?_
  rintro e w'' ⟨v,rfl,F',Z',av,H',⟨vs,rfl,rfl⟩,hinv,hv⟩
  refine ⟨v,rfl,?_⟩
  have s:Step w w'' (fun _=>False):=⟨hinv.base.os,hinv.base.tape,hinv.base.output,hinv.base.drawn,hinv.base.size,fun b hb _=>hinv.base.keep b hb id⟩
  have hk:=s.keep' hi
  refine h vs is hs.2 r' hr w0 F0 Z0 w'' (fun b=>F' b∨F b) Z' _ (by simpa [putT] using hn) ?_ ((hf.st hinv.z0 hk).put (by omega) hv)
  refine hi.step s (fun _ x=>x.elim) hinv.z0 (fun b hb=>?_) (fun b hb=>?_) (hinv.res.append (hi.res.st hinv.z0 fun b hb=>s.keep b (hb.elim (fun x=>(hi.zin b x).1) (fun x=>(hi.fin b x).1)) id) fun b hb hF=>?_)
  ·have:=hinv.zin b hb
   exact this.2.elim .inl fun y=>y.elim (fun z=>z.elim) fun z=>.inr (.inr ⟨z,this.1⟩)
  ·rcases hb with hb | hb
   ·have:=hinv.fin b hb
    exact ⟨this.2.1.elim (fun z=>z.elim) fun z=>.inr ⟨z,this.1⟩,this.2.2⟩
   ·refine ⟨.inl hb,fun hz=>?_⟩
    have:=hinv.zin b hz
    rcases this.2 with y | y | y
    ·exact (hi.fin b hb).2.2 y
    ·exact y
    ·have:=(hi.fin b hb).1;omega
  ·have:=hinv.fin b hb
   rcases this.2.1 with y | y
   ·exact y
   ·have:=(hi.fin b hF).1;omega
theorem Pure.of {g:FuncId} {avs:List AV} {Q:Type} {y:Option Q} {en:Q→AV} (h:∀ r,y=some r→Spec P g avs [] fun a H=>a=en r∧H=[]):Pure P g avs y en:=h
def rvRun (rv:ResultVar) (tmps:Array Value):Sem Value:=match rv with
 | .tmp t=>pure (tmps.getD t undef)
 | .cell a t=>do loadVar t (← asAddr (tmps.getD a undef))
theorem results1 {fn:Func} {r1:ResultVar} (h:fn.results=#[r1]) {tmps:Array Value} {w:World} {v1:Value} (h1:(rvRun r1 tmps).run P w = .ok v1 w):(results fn tmps).run P w = .ok v1 w:=by
 have:results fn tmps=(do let vs ← (#[r1]:Array ResultVar).mapM (fun rv=>rvRun rv tmps);pure (if h:vs.size=1 then vs[0] else .tuple vs)):=by rw [← h];rfl
 rw [this];simp [h1,Sem.run_bind,go_sem]
theorem results2 {fn:Func} {r1 r2:ResultVar} (h:fn.results=#[r1,r2]) {tmps:Array Value} {w:World} {v1 v2:Value} (h1:(rvRun r1 tmps).run P w = .ok v1 w) (h2:(rvRun r2 tmps).run P w = .ok v2 w):(results fn tmps).run P w = .ok (.tuple #[v1,v2]) w:=by
 have:results fn tmps=(do let vs ← (#[r1,r2]:Array ResultVar).mapM (fun rv=>rvRun rv tmps);pure (if h:vs.size=1 then vs[0] else .tuple vs)):=by rw [← h];rfl
 rw [this];simp [h1,h2,Sem.run_bind,go_sem]
theorem results0 {fn:Func} (h:fn.results=#[]) {tmps:Array Value} {w:World}:(results fn tmps).run P w = .ok (.tuple #[]) w:=by
 simp [results,h,go_sem]
def RetA (P:Program) (fr:Fr) (H:List Res) (rv:ResultVar) (a:AV):Prop:=∀ (Z F:Nat→Prop) (w:World) (tmps:Array Value),HAll H Z w F→FrOk fr Z w tmps→∃ v,(rvRun rv tmps).run P w = .ok v w∧a.p Z w v
theorem rT {u:Nat} {a:AV} (hu:look fr u=some a):RetA P fr H (.tmp u) a:=fun Z F w tmps _ hf=>⟨_,rfl,hf u a hu⟩
theorem rC {u b j m:Nat} {aS:List AV} (hg:IsAgg P t true) (hs:SizeIs P t m) (hu:look fr u=some (.lit (.pointer (some ⟨b,0,none⟩)))) (hj:H[j]?=some (.box b aS)) (hm:aS.length=m):RetA P fr H (.cell u t) (.agg aS):=fun Z F w tmps hH hf=>by
 obtain ⟨F1,⟨hb,vs,t',h1,h2⟩,_⟩:=hH.at hj
 have e1:tmps.getD u undef=_:=hf u _ hu
 have hl:=h2.length
 have:=load_agg (P:=P) (t:=t) (a:=⟨b,0,none⟩) (vs:=vs) (w:=w) hg hs (by omega) (fun i u hu=>by rw [Addr.add_lit,cell_of_row _ _ _ _ _ _ h1];simpa using hu)
 refine ⟨.agg vs.toArray,?_,vs,rfl,h2⟩
 simp only [Instr.loadAt,Instr.sureAddr,Sem.run_bind,Sem.run_pure,Result.andThen_ok] at this
 simp only [rvRun,e1,asAddr,Sem.run_bind,Sem.run_pure,Result.andThen_ok,this]
theorem M0 (js:List Nat) {fn:Func} {r1:ResultVar} {a:AV} {q:R} (hf:P.funcs[f]?=some fn) (hr:fn.results=#[r1]) (h1:RetA P fr H r1 a) (hK:K q a (S.dropAll H js)):Sim P f n (.code .ret::k) fr H (some q) some K:=by
 intro r hq w0 F0 Z0 w F Z tmps hn hi hfr
 cases hq
 obtain ⟨v1,e1,p1⟩:=h1 Z F w tmps hi.res hfr
 exact .ret hf (results1 hr e1) ⟨F,Z,a,_,hK,hi.less (·.dropAll js),p1⟩
theorem m8 (js:List Nat) {fn:Func} {r1 r2:ResultVar} {a b:AV} {q:R} (hf:P.funcs[f]?=some fn) (hr:fn.results=#[r1,r2]) (h1:RetA P fr H r1 a) (h2:RetA P fr H r2 b) (hK:K q (.tup [a,b]) (S.dropAll H js)):Sim P f n (.code .ret::k) fr H (some q) some K:=by
 intro r hq w0 F0 Z0 w F Z tmps hn hi hfr
 cases hq
 obtain ⟨v1,e1,p1⟩:=h1 Z F w tmps hi.res hfr
 obtain ⟨v2,e2,p2⟩:=h2 Z F w tmps hi.res hfr
 exact .ret hf (results2 hr e1 e2) ⟨F,Z,_,_,hK,hi.less (·.dropAll js),[v1,v2],rfl,.cons p1 (.cons p2 .nil)⟩
theorem re {fn:Func} {q:R} (hf:P.funcs[f]?=some fn) (hr:fn.results=#[]) (hK:K q .any H):Sim P f n [] fr H (some q) some K:=by
 intro r hq w0 F0 Z0 w F Z tmps hn hi hfr
 cases hq
 exact .fin hf (results0 hr) ⟨F,Z,_,H,hK,hi,trivial⟩
inductive Parts (fr:Fr) (pl:Nat→Option (Nat×Nat)):List AV→List (Nat×Operand)→List AV→Prop
 | nil {aS:List AV}:Parts fr pl aS [] aS
 | c {aS bs cs:List AV} {i off sz:Nat} {x:Operand} {a:AV} {ps:List (Nat×Operand)}:pl i=some (off,sz)→arg fr x=some a→CellsOf a bs→bs.length=sz→Nat.ble (off+sz) aS.length=true→Parts fr pl (splice aS off bs) ps cs→Parts fr pl aS ((i,x)::ps) cs
theorem foldl_splice (vs us:List Value) (o:Nat) (h:o+us.length≤vs.length):(us.toArray.zipIdx.foldl (fun (cs:Array Value) (x:Value×Nat)=>cs.setIfInBounds (o+x.2) x.1) vs.toArray)=(vs.take o++us++vs.drop (o+us.length)).toArray:=by
 have key:∀ (us:List Value) (i:Nat) (vs:List Value),o+i+us.length≤vs.length→(us.zipIdx i).foldl (fun (cs:Array Value) (x:Value×Nat)=>cs.setIfInBounds (o+x.2) x.1) vs.toArray=(vs.take (o+i)++us++vs.drop (o+i+us.length)).toArray:=by
  intro us
  induction us with
  | nil=>intro i vs h;simp
  | cons u us ih =>
   intro i vs h
   simp only [List.zipIdx_cons,List.foldl_cons,List.setIfInBounds_toArray]
   rw [ih (i+1) (vs.set (o+i) u) (by simp at h ⊢;omega)]
   congr 1
   apply List.ext_getElem?
   intro q
   simp only [List.length_cons] at h ⊢
   simp only [List.getElem?_append,List.getElem?_take,List.getElem?_drop,List.length_append,List.length_take,List.length_set,List.getElem?_set]
   have e1:min (o+(i+1)) vs.length=o+i+1:=by omega
   have e2:min (o+i) vs.length=o+i:=by omega
   simp only [e1,e2]
   by_cases h1:q<o+i
   ·have a1:q<o+i+1+us.length:=by omega
    have a2:q<o+i+1:=by omega
    have a3:q<o+i+(us.length+1):=by omega
    have a4:q<o+(i+1):=by omega
    have a5:¬ o+i=q:=by omega
    simp [*]
   ·by_cases h2:q=o+i
    ·subst h2
     have a1:o+i<o+i+1+us.length:=by omega
     have a2:o+i<o+(i+1):=by omega
     have a3:o+i<vs.length:=by omega
     simp [*]
    ·by_cases h3:q<o+i+1+us.length
     ·have a1:¬ q<o+i+1:=by omega
      have a2:q<o+i+(us.length+1):=by omega
      have a3:q-(o+i)=(q-(o+i+1))+1:=by omega
      simp only [List.length_cons,h3,a1,a2,if_true,if_false,h1,a3,List.getElem?_cons_succ]
     ·have a2:¬ q<o+i+(us.length+1):=by omega
      have a3:¬ o+i=o+(i+1)+us.length+(q-(o+i+1+us.length)):=by omega
      have a4:o+(i+1)+us.length+(q-(o+i+1+us.length))=o+i+(us.length+1)+(q-(o+i+(us.length+1))):=by omega
      have a5:¬ o+i=o+i+(us.length+1)+(q-(o+i+(us.length+1))):=by omega
      simp [h3,a2,a4,a5]
 have:=key us 0 vs (by omega)
 rw [← Array.foldl_toList]
 simpa using this
theorem fill_parts {pl:Nat→Option (Nat×Nat)} {aS cs:List AV} {ps:List (Nat×Operand)} (h:Parts fr pl aS ps cs) {Z:Nat→Prop} {w:World} {ρ:Operand→Value} (hf:∀ {x:Operand} {a:AV},x ∈ ps.map (·.2)→arg fr x=some a→a.p Z w (ρ x)) :
  ∀ vs,AllP Z w aS vs→∃ us,Instr.fill pl vs.toArray (ps.map fun p=>(p.1,ρ p.2))=some us.toArray∧AllP Z w cs us:=by
 induction h with
 | nil=>exact fun vs hv=>⟨vs,rfl,hv⟩
 | @c aS bs cs i off sz x a ps hpl hx hc hl hle _ ih =>
  intro vs hv
  have hcs:=hc _ _ _ (hf (by simp) hx)
  have l1:=hcs.length
  have l2:=hv.length
  have hle':off+sz≤aS.length:=by simpa [Nat.ble_eq] using hle
  have hsz:(ρ x).cells.size=sz:=by rw [← hl,l1];simp
  obtain ⟨us,h1,h2⟩:=ih (fun hm hx=>hf (by simp at hm ⊢;exact .inr hm) hx) _ (hv.splice hcs off)
  refine ⟨us,?_,h2⟩
  have hfd:=foldl_splice vs (ρ x).cells.toList off (by simp;omega)
  simp only [Array.toArray_toList] at hfd
  have hge:¬ (off+sz > vs.length):=by omega
  simp only [List.map_cons,Instr.fill,hpl,hsz,ne_eq,not_true_eq_false,List.size_toArray,hge,or_self,if_false]
  exact (congrArg (fun z=>Instr.fill pl z _) hfd).trans h1
theorem m5 {zs:List Value} {az cs:List AV} {ps:Array (Nat×Operand)} {fs:Array Field} {pls:Array (Nat×Nat)} (ht:P.underlying t=some (.struct fs)) (hz:∀ w,(zeroValue t).run P w = .ok (.agg zs.toArray) w) (hm:∀ w,(fs.mapM (m:=Sem) fun f=>do pure (f.offset,← sizeOf f.type)).run P w = .ok pls w)
  (ha:∀ Z w,AllP Z w az zs) (hp:Parts fr (fun i=>pls[i]?) az ps.toList cs):D P n H (.build t ps) ty fr (.agg cs) :=
 .of fun o ho hty w Z F ρ _ hf=>by
  obtain ⟨us,h1,h2⟩:=fill_parts hp (ρ:=ρ) (Z:=Z) (w:=w) (fun {x a} hmem hx=>hf (by simp [Op.operands];simpa using hmem) hx) zs (ha Z w)
  refine ⟨.agg us.toArray,?_,us,rfl,h2⟩
  have hps:(ps.map fun p=>(p.1,ρ p.2)).toList=ps.toList.map fun p=>(p.1,ρ p.2):=by simp
  have h1':Instr.fill (fun i=>pls[i]?) zs.toArray (ps.map fun p=>(p.1,ρ p.2)).toList=some us.toArray:=by rw [hps];exact h1
  simp only [execOp,ho,Instr.build,Sem.run_bind,hz w,Result.andThen_ok,Sem.run_pure,run_underlying ht,hm w,Value.cells]
  have h1'':Instr.fill (fun x=>pls[x]?) zs.toArray (Array.map (fun x=>match x with | (i,x)=>(i,ρ x)) ps).toList=some us.toArray:=h1'
  simp only [h1'',Sem.run_pure,Result.andThen_ok]
end
end S
end Go.Proofs.Ytgmnohjaciemmaa

