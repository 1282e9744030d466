import Derived.Test.YtokccimmgilciaaProg
import Derived.Laws.BitsLemmas
import Derived.Test.YtokccimmgilciaaW2
namespace Go.Proofs.Ytokccimmgilciaa
namespace S
open Go.RowKit
set_option linter.unusedVariables false
set_option linter.unusedSimpArgs false
def NoFz (w:World) (b:Nat):Prop:=∀ cur t fz,w.heap[b]?=some (.cells cur t fz)→FzOk fz cur.size
theorem NoFz.keep {w w':World} {b:Nat} (h:NoFz w b) (e:w'.heap[b]?=w.heap[b]?):NoFz w' b:=fun cur t fz hh=>h cur t fz (by rw [← e];exact hh)
def AV.nz (a:AV):AV:=⟨fun Z w v=>a.p (fun b=>Z b∧NoFz w b) w v,fun hz hk h=>a.st (fun b hb=>⟨hz b hb.1,hb.2.keep (hk b hb.1)⟩) (fun b hb=>hk b hb.1) h⟩
theorem AV.nz_out {a:AV} {Z:Nat→Prop} {w:World} {v:Value} (h:(AV.nz a).p Z w v):a.p Z w v:=a.st (fun _ hb=>hb.1) (fun _ _=>rfl) h
theorem oNz {a:AV} (h:a.One):(AV.nz a).One:=fun _ _ _ hp=>h _ _ _ hp
theorem allP_nz {Z:Nat→Prop} {w:World}:∀ {aS:List AV} {vs:List Value},AllP Z w (aS.map AV.nz) vs→AllP (fun b=>Z b∧NoFz w b) w aS vs
 | [],_,h=>by cases h;exact .nil
 | a::aS,_,h=>by cases h with | cons h1 h2=>exact .cons h1 (allP_nz h2)
theorem own_nz {T:Type} {t:TypeId} {c cn:Co T} (hs:cn.sz=c.sz) (he:∀ x,cn.e x=(c.e x).map AV.nz) {v:Value} {xs:List T} {Z F:Nat→Prop} {w:World} (h:(Res.own t cn v xs).h Z w F):(AV.nz (.fsl c xs)).p (fun b=>Z b∨F b) w v:=by
 obtain ⟨cs,⟨hl,ho⟩,hb,hr⟩ | ⟨rfl,A,rfl⟩:=h
 case inr=>exact ⟨A,0,rfl,Nat.le_refl _,fun i x hx=>by simp at hx⟩
 rcases ho with ⟨hv,hn⟩ | ⟨g,cap,cur,hv,hg,⟨fz,hh,hf⟩,hcap,hm,hcs,htk⟩
 ·refine ⟨none,0,by rw [hv,hn],by omega,fun i x hx=>?_⟩
  have:xs=[]:=List.length_eq_zero_iff.1 hn
  subst this;simp at hx
 ·refine ⟨some ⟨g,0,none⟩,cap,hv,hcap,fun i x hx=>⟨_,rfl,⟨.inr (hb g (by rw [hv];rfl)),fun cur' t' fz' h'=>by rw [hh] at h';cases h';exact hf⟩,?_⟩⟩
  obtain ⟨vs,h1,h2⟩:=hr i x hx
  rw [he] at h1
  refine ⟨vs,(allP_nz h1).st (fun b hb=>⟨.inl hb.1,hb.2⟩) (fun _ _=>rfl),fun j u hj=>?_⟩
  have h3:=h2 j u hj
  rw [hs] at h3 htk
  rw [add_add,Addr.add_lit,cell_of_row w g _ cur t fz hh]
  rw [← htk,List.getElem?_take] at h3
  split at h3
  ·simpa using h3
  ·cases h3
def Res.fa (a:AV) (v:Value):Res:=⟨fun Z w _=>a.p Z w v,fun hz hk h=>AV.st _ hz (fun b hb=>hk b (.inl hb)) h⟩
section
variable {P:Program} {f:FuncId} {n:Nat} {ops:Array Oper} {l:List Oper} {k:List Item} {fr:Fr} {H:List Res} {ρ R:Type} {x:Option ρ} {X:ρ→Option R} {K:R→AV→List Res→Prop} {ty t t' e t0:TypeId} {d:Nat} {pos:String} {aft:Array Edge}
theorem sFzA {todo:List Item} (j:Nat) {a:AV} {r:Res} {v:Value} (hj:H[j]?=some r) (hr:∀ {Z w F1},r.h Z w F1→a.p (fun b=>Z b∨F1 b) w v) (h:Sim P f n todo fr (H.set j (.fa a v)) x X K):Sim P f n todo fr H x X K:=by
 intro q hq w0 F0 Z0 w F Z tmps hn hi hf
 obtain ⟨F1,h1,hF,hset⟩:=HAll.give (r':=.fa a v) hj hi.res
 have hzz:∀ b,Z b→Z b∨F1 b:=fun _ x=>.inl x
 refine h q hq w0 F0 Z0 w (fun b=>F b∧¬ F1 b) (fun b=>Z b∨F1 b) tmps hn ?_ (hf.st hzz (Keep.refl _ _))
 exact hi.step (F1:=fun _=>False) (Step.refl _ _) (fun _ x=>x.elim) hzz (fun b x=>x.imp id fun y=>.inl (hF b y)) (fun b hb=>⟨.inl hb.1,fun x=>x.elim (hi.fin b hb.1).2.2 hb.2⟩) (hset _ hzz (hr h1))
theorem sUpA {todo:List Item} (u j:Nat) {a:AV} {v:Value} (hu:look fr u=some (.sv v)) (hj:H[j]?=some (.fa a v)) (h:Sim P f n todo ((u,a)::fr) H x X K):Sim P f n todo fr H x X K:=by
 intro r hr w0 F0 Z0 w F Z tmps hn hi hf
 obtain ⟨F1,h1,_⟩:=hi.res.at hj
 refine h r hr w0 F0 Z0 w F Z tmps hn hi fun t a ht=>?_
 simp only [look] at ht
 by_cases e:u=t
 ·subst e;simp at ht;subst ht
  have h2:(AV.sv v).p Z w (tmps.getD u undef):=hf u _ hu
  rw [h2.1];exact h1
 ·have:(u == t)=false:=by simpa using e
  rw [this] at ht;exact hf t a (by simpa using ht)
theorem Jc {T:Type} (c:Co T) (j u:Nat) {cn:Co T} {v:Value} {xs:List T} (hj:H[j]?=some (.own t0 cn v xs)) (hs:cn.sz=c.sz) (he:∀ x,cn.e x=(c.e x).map AV.nz) (hu:look fr u=some (.sv v)) (h:SimL P f n ops l k ((u,.nz (.fsl c xs))::fr) (H.set j (.fa (.nz (.fsl c xs)) v)) x X K):SimL P f n ops l k fr H x X K :=
 fun is hi=>sFzA j (a:=.nz (.fsl c xs)) hj (fun hr=>own_nz hs he hr) (sUpA u j hu (by
  have:j<H.length:=by
   rcases Nat.lt_or_ge j H.length with h | h
   ·exact h
   ·simp [h] at hj
  rw [List.getElem?_set_self this]) (h is hi))
theorem lendNz {a:AV} {Z F:Nat→Prop} {w:World} {u:Value} (hH:HAll H Z w F) (h:(AV.nz a).p Z w u):a.p (fun b=>Z b∨F b) w u:=AV.st _ (fun _ x=>.inl x) (fun _ _=>rfl) (AV.nz_out h)
theorem Pc {todo:List Item} (b i:Nat) (a:AV) {aS:List AV} {g:Nat} (hb:H[b]?=some (.box g aS)) (hu:aS[i]?=some (.lit (.slice none 0 0))) (ha:∀ Z w,a.p Z w (.slice none 0 0)) (h:Sim P f n todo fr (H.set b (.box g (aS.set i a))) x X K):Sim P f n todo fr H x X K:=by
 intro r hr w0 F0 Z0 w F Z tmps hn hi hf
 obtain ⟨F',hi',_⟩:=hi.turn (w':=w) (r':=.box g (aS.set i a)) hb fun G1 ⟨hg,vs,t',e1,e2⟩ _=>⟨G1,Step.refl _ _,⟨hg,vs,t',e1,e2.imp hu fun u hu=>by
  have:u = .slice none 0 0:=hu
  rw [this];exact ha _ _⟩,fun _ x=>.inl x⟩
 exact h r hr w0 F0 Z0 w F' Z tmps hn hi' hf
theorem wb {T:Type} {co:Co T} {xs:List T} {y:Operand} (ht:P.underlying t=some (.slice e)) (hy:arg fr y=some (.nz (.fsl co xs))):D P n H (.call ⟨.builtin .len,#[y],#[t]⟩) ty fr (Ai .i64 xs.length) :=
 .of fun o ho hty w Z F ρ hH hf=>by
  obtain ⟨A,m,h1,_⟩:=hf (by simp [Op.operands,Call.operands]) hy
  exact ⟨.int .i64 xs.length,by simp [execOp,ho,h1,resolve,invoke,builtin,Builtin.len_,run_underlying ht,goInt,Sem.run_bind],rfl⟩
theorem Wc {T:Type} {c:Co T} {xs:List T} {y b q:Operand} {kb kq:IntKind} {m m2:Int} (ht:P.underlying t=some (.slice e)) (hsz:SizeIs P e c.sz) (hy:arg fr y=some (.nz (.fsl c xs))) (hb:arg fr b=some (Ai kb m)) (hq:arg fr q=some (Ai kq m2)) (h1:0≤m) (h2:m≤m2) (h3:m2≤xs.length):D P n H (.slice t y none (some b) (some q)) ty fr (.nz (.fsl c (sl xs 0 m))) :=
 .of fun o ho hty w Z F ρ hH hf=>by
  have hp:=hf (by simp [Op.operands]) hy
  have e2:ρ b=_:=hf (by simp [Op.operands]) hb
  have e3:ρ q=_:=hf (by simp [Op.operands]) hq
  obtain ⟨A,c',e1,hc',hel⟩:=hp
  have g1:m2≤(c':Int):=by omega
  have g2:(0:Int)≤m2:=by omega
  have g3:m≤((m2.toNat:Nat):Int):=by omega
  refine ⟨.slice A m.toNat m2.toNat,?_,A,m2.toNat,?_,by simp [sl];omega,fun i x hx=>?_⟩
  ·have g4:max m2 0=m2:=by omega
   simp [execOp,ho,e1,e2,e3,Instr.sliceAt,Instr.slice,Instr.sliceBounds,Instr.sliceBound,run_underlying ht,hsz _,Sem.run_bind,asIntOf,g1,g2,g3,g4,h1,h2]
   try (intro _;cases A <;> simp [Addr.add])
  ·have:(sl xs 0 m).length=m.toNat:=by simp [sl];omega
   rw [this]
  ·simp only [sl,Int.toNat_zero,List.drop_zero,List.getElem?_take] at hx
   split at hx
   ·exact hel i x hx
   ·cases hx
def Res.blob {T:Type} (c:Co T) (u:Value) (xs:List T):Res :=
 ⟨fun Z w F=>(AV.fsl c xs).p F w u∧∀ b,F b→NoFz w b,fun hz hk h=>⟨AV.st _ (fun _ x=>x) (fun b hb=>hk b (.inr hb)) h.1,fun b hb=>(h.2 b hb).keep (hk b (.inr hb))⟩⟩
theorem nz_blob {T:Type} {c:Co T} {u:Value} {xs:List T} {Z:Nat→Prop} {w:World} (h:(AV.nz (.fsl c xs)).p Z w u):HAll [.blob c u xs] (fun _=>False) w Z :=
 ⟨fun b=>Z b∧NoFz w b,fun _=>False,⟨h,fun b hb=>hb.2⟩,trivial,fun b hb=>⟨hb.1,id⟩,fun _ x=>x.elim⟩
theorem blob_fsl {T:Type} {c:Co T} {u:Value} {xs:List T} {j:Nat} (hj:H[j]?=some (.blob c u xs)) {Z F:Nat→Prop} {w:World} (hH:HAll H Z w F):(AV.fsl c xs).p (fun b=>Z b∨F b) w u:=by
 obtain ⟨F1,h1,hF⟩:=hH.at hj
 exact AV.st _ (fun b hb=>.inr (hF b hb)) (fun _ _=>rfl) h1.1
theorem yd {g:FuncId} {y:Operand} {args:Array Operand} {ts:Array TypeId} {avs:List AV} {Q I:Type} {z:Option Q} {en:Q→AV} {r:Q} {A:I→AV} {B:I→List Res} (hg:Ent P g) (hy:arg fr y=some (.lit (.func (.func g) #[] #[]))) (hp:Pure P g avs z en) (hz:z=some r) (hfl:FlatL avs) (ha:ArgsS fr args.toList avs) (hdn:Nat.blt d n=true)
  (hsp:∀ w (G:Nat→Prop) v,(en r).p G w v→∃ ι,(A ι).p (fun _=>False) w v∧HAll (B ι) (fun _=>False) w G)
  (h:∀ ι,SimL P f n ops l k ((d,A ι)::fr) (B ι++H) x X K):SimL P f n ops (⟨some d,.call ⟨.value y,args,ts⟩,ty,pos,aft,none⟩::l) k fr H x X K:=by
 intro is hs r' hr w0 F0 Z0 w F Z tmps hn hi hf
 cases is with
 | nil=>simp at hs
 | cons i is =>
  simp only [List.map_cons,List.cons.injEq] at hs
  have hdn':d<n:=by simpa [Nat.blt_eq] using hdn
  have all:∀ {x:Operand} {a:AV},arg fr x=some a→a.p Z w ((⟨tmps,[]⟩:Act).eval x):=by
   intro x a hx
   cases x with
   | tmp t=>exact hf t a hx
   | const v=>simp [arg] at hx;subst hx;rfl
   | func g=>simp [arg] at hx;subst hx;rfl
   | global g=>simp [arg] at hx;subst hx;rfl
  have hargs:=flL (Z':=fun _=>False) (w':=w) hfl (argsS_ok (ρ:=(⟨tmps,[]⟩:Act).eval) ha fun {x a} _ hx=>all hx)
  have hin:Inv w w (fun _=>False) (fun _=>False) (fun _=>False) (fun _=>False) []:=⟨Base.refl _ _,fun _ x=>x,fun b hb=>hb.elim,fun _ x=>x.elim,trivial⟩
  refine .enter hs.1 (wanted_none rfl) (call_run' (all hy) rfl hg) (hp r hz w (fun _=>False) (fun _=>False) _ hargs hin) ?_
  rintro e w'' ⟨v,rfl,F',Z',av,H',⟨rfl,rfl⟩,hinv,hv⟩
  refine ⟨v,rfl,?_⟩
  obtain ⟨ι,hA,hB⟩:=hsp w'' Z' v hv
  have s:Step w w'' (fun _=>False):=⟨hinv.base.os,hinv.base.tape,hinv.base.output,hinv.base.drawn,hinv.base.size,fun b hb _=>hinv.base.keep b hb id⟩
  have hk:=s.keep' hi
  have hZ':∀ b,Z' b→w.heap.size≤b∧b<w''.heap.size:=fun b hb=>⟨(hinv.zin b hb).2.elim (fun z=>z.elim) fun y=>y.elim (fun z=>z.elim) id,(hinv.zin b hb).1⟩
  refine h ι is hs.2 r' hr w0 F0 Z0 w'' (fun b=>Z' b∨F b) Z _ (by simpa [putT] using hn) ?_ ((hf.st (fun _ x=>x) hk).put (by omega) (AV.st _ (fun _ x=>x.elim) (fun _ _=>rfl) hA))
  refine hi.step s (fun _ x=>x.elim) (fun _ x=>x) (fun _ x=>.inl x) (fun b hb=>?_) ((hB.st (fun _ x=>x.elim) (fun _ _=>rfl)).append (hi.res.st (fun _ x=>x) fun b hb=>s.keep b (hb.elim (fun x=>(hi.zin b x).1) (fun x=>(hi.fin b x).1)) id) fun b hb hF=>?_)
  ·rcases hb with hb | hb
   ·exact ⟨.inr (hZ' b hb),fun hz=>by have:=(hi.zin b hz).1;have:=(hZ' b hb).1;omega⟩
   ·exact ⟨.inl hb,(hi.fin b hb).2.2⟩
  ·have:=(hi.fin b hF).1;have:=(hZ' b hb).1;omega
def IntV (v:Value):Prop:=∃ z,v = .int .i64 z
def IsSl (v:Value):Prop:=∃ A n m,v = .slice A n m
def AV.anyI:AV:=⟨fun _ _ v=>IntV v,fun _ _ h=>h⟩
def Sh1 (w:World) (F:Nat→Prop) (u:Value) (sz n:Nat) (cell:Nat→Nat→Value→Prop):Prop :=
 ∃ A m,u = .slice A n m∧∀ i,i<n→∃ a,A=some a∧F a.block∧∀ q,q<sz→∃ v,w.cell? (a.add (i*sz+q))=some v∧cell i q v
def Cl (cell:Nat→Nat→Value→Prop):Prop:=∀ i q v v',IntV v→IntV v'→cell i q v→cell i q v'
theorem cell_write {w:World} {ad b:Addr} {v0 v' v:Value} (h0:w.cell? ad=some v0) (hb:w.cell? b=some v):∃ v2,(w.setCell ad v').cell? b=some v2∧(v2=v∨v=v0∧v2=v'):=by
 have hh:(w.setCell ad v').heap=w.heap.modify ad.block (fun | .cells c elem frozen=>.cells (if ad.spot.isSome then c else c.setIfInBounds ad.off v') elem frozen | o=>o):=rfl
 by_cases e:ad.block=b.block
 ·unfold World.cell? at h0 hb ⊢
  rw [hh,Array.getElem?_modify,if_pos e]
  rw [e] at h0
  cases hx:w.heap[b.block]? with
  | none=>rw [hx] at hb;cases hb
  | some ob =>
   cases ob with
   | cells c tt fz =>
    rw [hx] at h0 hb
    simp only [Option.map_some] at h0 hb ⊢
    by_cases s1:ad.spot.isSome=true
    ·rw [if_pos s1] at h0;cases h0
    ·rw [if_neg s1] at h0 ⊢
     by_cases s2:b.spot.isSome=true
     ·rw [if_pos s2] at hb;cases hb
     ·rw [if_neg s2] at hb ⊢
      rw [Array.getElem?_setIfInBounds]
      by_cases eo:ad.off=b.off
      ·rw [if_pos eo]
       have hlt:ad.off<c.size:=by
        rcases Nat.lt_or_ge ad.off c.size with h | h
        ·exact h
        ·rw [Array.getElem?_eq_none h] at h0;cases h0
       rw [if_pos hlt]
       rw [eo,hb] at h0
       exact ⟨v',rfl,.inr ⟨Option.some.inj h0,rfl⟩⟩
      ·rw [if_neg eo];exact ⟨v,hb,.inl rfl⟩
   | _=>rw [hx] at hb;cases hb
 ·refine ⟨v,?_,.inl rfl⟩
  rw [← hb]
  apply World.cell?_of_block
  rw [hh,Array.getElem?_modify,if_neg e]
theorem NoFz.write {w:World} {ad:Addr} {v':Value} {b:Nat} (h:NoFz w b):NoFz (w.setCell ad v') b:=by
 intro cur t fz hc
 have hh:(w.setCell ad v').heap=w.heap.modify ad.block (fun | .cells c elem frozen=>.cells (if ad.spot.isSome then c else c.setIfInBounds ad.off v') elem frozen | o=>o):=rfl
 rw [hh,Array.getElem?_modify] at hc
 by_cases e:ad.block=b
 ·rw [if_pos e] at hc
  cases hx:w.heap[b]? with
  | none=>rw [hx] at hc;cases hc
  | some ob =>
   rw [hx] at hc
   cases ob with
   | cells c tt fz' =>
    simp only [Option.map_some,Option.some.injEq,Obj.cells.injEq] at hc
    obtain ⟨h1,h2,h3⟩:=hc
    have:=h c tt fz' hx
    subst h1 h3
    split <;> simpa using this
   | _=>cases hc
 ·rw [if_neg e] at hc;exact h cur t fz hc
theorem Sh1.write {w:World} {F:Nat→Prop} {u:Value} {sz n:Nat} {cell:Nat→Nat→Value→Prop} {ad:Addr} {v0 v':Value} (h:Sh1 w F u sz n cell) (hc:Cl cell) (h0:w.cell? ad=some v0) (hv:IntV v0) (hv':IntV v'):Sh1 (w.setCell ad v') F u sz n cell:=by
 obtain ⟨A,m,e,hs⟩:=h
 refine ⟨A,m,e,fun i hi=>?_⟩
 obtain ⟨a,ea,hF,hq⟩:=hs i hi
 refine ⟨a,ea,hF,fun q hql=>?_⟩
 obtain ⟨v,c1,c2⟩:=hq q hql
 obtain ⟨v2,d1,d2⟩:=cell_write (v':=v') h0 c1
 refine ⟨v2,d1,?_⟩
 rcases d2 with rfl | ⟨rfl,rfl⟩
 ·exact c2
 ·exact hc i q _ _ hv hv' c2
theorem Sh1.keep {w w':World} {F:Nat→Prop} {u:Value} {sz n:Nat} {cell:Nat→Nat→Value→Prop} (h:Sh1 w F u sz n cell) (hk:∀ b,F b→w'.heap[b]?=w.heap[b]?):Sh1 w' F u sz n cell:=by
 obtain ⟨A,m,e,hs⟩:=h
 refine ⟨A,m,e,fun i hi=>?_⟩
 obtain ⟨a,ea,hF,hq⟩:=hs i hi
 refine ⟨a,ea,hF,fun q hql=>?_⟩
 obtain ⟨v,c1,c2⟩:=hq q hql
 exact ⟨v,by rw [World.cell?_of_block (hk _ (by rw [add_block];exact hF))];exact c1,c2⟩
variable {u:Value} {sz nn:Nat} {cell:Nat→Nat→Value→Prop} {r:Res} {j:Nat}
theorem mc {y:Operand} (hS:∀ Z w F,r.h Z w F→Sh1 w F u sz nn cell) (hj:H[j]?=some r) (ht:P.underlying t=some (.slice e)) (hy:arg fr y=some (.sv u)):D P n H (.call ⟨.builtin .len,#[y],#[t]⟩) ty fr (Ai .i64 nn) :=
 .of fun o ho hty w Z F ρ hH hf=>by
  obtain ⟨h1,_⟩:=hf (by simp [Op.operands,Call.operands]) hy
  obtain ⟨F1,h,_⟩:=hH.at hj
  obtain ⟨A,m,e1,_⟩:=hS _ _ _ h
  rw [e1] at h1
  exact ⟨.int .i64 nn,by simp [execOp,ho,h1,resolve,invoke,builtin,Builtin.len_,run_underlying ht,goInt,Sem.run_bind],rfl⟩
theorem ga {y z:Operand} {kd:IntKind} {i:Int} (hS:∀ Z w F,r.h Z w F→Sh1 w F u sz nn cell) (hj:H[j]?=some r) (ht:P.underlying t=some (.slice e)) (hsz:SizeIs P e sz) (hy:arg fr y=some (.sv u)) (hz:arg fr z=some (Ai kd i)) (h0:0≤i) (h1:i<nn):D P n H (.indexAddr t y z) ty fr (.ep u (i.toNat*sz)) :=
 .of fun o ho hty w Z F ρ hH hf=>by
  obtain ⟨e1,_⟩:=hf (by simp [Op.operands]) hy
  have e2:ρ z=_:=hf (by simp [Op.operands]) hz
  obtain ⟨F1,h,_⟩:=hH.at hj
  obtain ⟨A,m,hv,hs⟩:=hS _ _ _ h
  obtain ⟨a,ea,_,_⟩:=hs i.toNat (by omega)
  subst ea
  rw [hv] at e1
  refine ⟨.pointer (some (a.add (i.toNat*sz))),?_,_,_,_,hv,rfl⟩
  simp [execOp,ho,e1,e2,Instr.indexAt,run_underlying ht,hsz _,Sem.run_bind,asIntOf,h0,h1]
theorem Wa {y:Operand} {m q:Nat} {a:AV} (i:Int) (hS:∀ Z w F,r.h Z w F→Sh1 w F u sz nn cell) (hj:H[j]?=some r) (hg:IsAgg P t false) (hy:arg fr y=some (.ep u m)) (hm:m=i.toNat*sz+q) (hq:Nat.blt q sz=true) (h0:0≤i) (h1:i<nn) (ha:∀ Z w v,cell i.toNat q v→a.p Z w v):D P n H (.load t y) ty fr a :=
 .of fun o ho hty w Z F ρ hH hf=>by
  obtain ⟨ad,q',c',e1,e2⟩:=hf (by simp [Op.operands]) hy
  obtain ⟨F1,h,_⟩:=hH.at hj
  obtain ⟨A,m',hv,hs⟩:=hS _ _ _ h
  obtain ⟨a',ea,_,hc⟩:=hs i.toNat (by omega)
  subst ea
  rw [hv] at e1;simp at e1
  obtain ⟨rfl,_,_⟩:=e1
  obtain ⟨v,c1,c2⟩:=hc q (by simpa [Nat.blt_eq] using hq)
  exact ⟨v,by simp [execOp,ho,e2,load_one (a:=a'.add m) (v:=v) hg (by rw [hm];exact c1),Sem.run_bind],ha _ _ _ c2⟩
theorem Qc {y z:Operand} {m q:Nat} {a:AV} (i:Int) (hS:∀ Z w F,r.h Z w F→Sh1 w F u sz nn cell) (hj:H[j]?=some r) (hW:∀ Z w F ad v v',r.h Z w F→F ad.block→w.cell? ad=some v→IntV v→IntV v'→r.h Z (w.setCell ad v') F) (hN:∀ Z w F b,r.h Z w F→F b→NoFz w b)
  (hs:SizeIs P t 1) (hy:arg fr y=some (.ep u m)) (hm:m=i.toNat*sz+q) (hq:Nat.blt q sz=true) (h0:0≤i) (h1:i<nn) (hc:∀ v,cell i.toNat q v→IntV v) (hz:arg fr z=some a) (ha:∀ Z w v,a.p Z w v→IntV v)
  (h:SimL P f n ops l k fr (H.set j r) x X K):SimL P f n ops (⟨none,.store t y z,ty,pos,aft,none⟩::l) k fr H x X K:=by
 refine Lc (fun o ho w0 F0 Z0 w F Z ρ hi hf=>?_) h
 obtain ⟨ad,q',c',e1,e2⟩:=hf (by simp [Op.operands]) hy
 obtain ⟨zv,ez⟩:=ha _ _ _ (hf (by simp [Op.operands]) hz)
 obtain ⟨F1,h2,hF1⟩:=hi.res.at hj
 obtain ⟨A,m',hv,hs'⟩:=hS _ _ _ h2
 obtain ⟨a',ea,hFa,hcc⟩:=hs' i.toNat (by omega)
 subst ea
 rw [hv] at e1;simp at e1
 obtain ⟨rfl,_,_⟩:=e1
 obtain ⟨v,c1,c2⟩:=hcc q (by simpa [Nat.blt_eq] using hq)
 have hfro:w.frozen? (a'.add m)=false:=by
  have hnf:=hN _ _ _ _ h2 hFa
  unfold World.frozen?
  rw [add_block]
  have c1':=c1
  unfold World.cell? at c1'
  rw [add_block,← hm] at c1'
  cases hx:w.heap[a'.block]? with
  | none=>rfl
  | some ob =>
   cases ob with
   | cells cur tt fz =>
    obtain ⟨lo,hi'⟩:=fz
    have hz:=hnf _ _ _ hx
    rw [hx] at c1'
    simp only at c1' ⊢
    split at c1'
    ·cases c1'
    ·have hlt:(a'.add m).off<cur.size:=by
      rcases Nat.lt_or_ge (a'.add m).off cur.size with h | h
      ·exact h
      ·rw [Array.getElem?_eq_none h] at c1';cases c1'
     simp only [Bool.and_eq_false_iff,decide_eq_false_iff_not]
     rcases hz with hz | hz
     ·cases hz;right;omega
     ·left;simp only at hz;omega
   | _=>rfl
 have hc1:w.cell? (a'.add m)=some v:=by rw [hm];exact c1
 have hst:(Instr.storeAt t (.pointer (some (a'.add m))) (.int .i64 zv)).run P w = .ok () (w.setCell (a'.add m) (.int .i64 zv)):=by
  have hcells:(Value.int .i64 zv).cells=#[.int .i64 zv]:=rfl
  have hadd0:(a'.add m).add 0=a'.add m:=by unfold Addr.add;simp
  simp only [Instr.storeAt,Instr.sureAddr,storeVar,Sem.run_bind,Sem.run_pure,Result.andThen_ok,hs w,hcells,ne_eq,not_true_eq_false,if_false,List.size_toArray,List.length_cons,List.length_nil,storeCells,hadd0,Nat.zero_add]
  rw [run_store P w _ _ _ rfl,hc1]
  simp [hfro]
 have hio:IntV v:=hc _ c2
 obtain ⟨F',hi',hk⟩:=hi.turn (w':=w.setCell (a'.add m) (.int .i64 zv)) (r':=r) hj fun G1 g1 hz1=>by
  obtain ⟨A2,m2,hv2,hs2⟩:=hS _ _ _ g1
  rw [hv] at hv2;cases hv2
  obtain ⟨a2,ea2,hFa2,_⟩:=hs2 i.toNat (by omega)
  cases ea2
  exact ⟨G1,Step.set w _ _ G1 (by rw [add_block];exact hFa2),hW _ _ _ _ _ _ g1 (by rw [add_block];exact hFa2) hc1 hio ⟨zv,rfl⟩,fun _ x=>.inl x⟩
 exact ⟨_,F',Z,by simp [execOp,ho,e2,ez,hst,Sem.run_bind],hi',fun _ x=>x,hk⟩
theorem td {y z:Operand} {b:Int} (hx:arg fr y=some .anyI) (hy:arg fr z=some (Ai .i64 b)):D P n H (.binOp .xor t y z t') ty fr .anyI :=
 .of fun o ho hty w Z F ρ _ hf=>by
  obtain ⟨a,h1⟩:=hf (by simp [Op.operands]) hx
  have h2:ρ z=_:=hf (by simp [Op.operands]) hy
  exact ⟨.int .i64 (ixor .i64 a b),by simp [execOp,ho,h1,h2,binOp_xor,Op.intBits,ixor,go_sem],_,rfl⟩
theorem Wd {y z:Operand} {b:Int} (hx:arg fr y=some (Ai .i64 b)) (hy:arg fr z=some .anyI):D P n H (.binOp .sub t y z t') ty fr .anyI :=
 .of fun o ho hty w Z F ρ _ hf=>by
  obtain ⟨a,h1⟩:=hf (by simp [Op.operands]) hy
  have h2:ρ y=_:=hf (by simp [Op.operands]) hx
  exact ⟨.int .i64 (IntKind.i64.wrap (b-a)),by simp [execOp,ho,h1,h2,Op.intArith,go_sem],_,rfl⟩
end
def Shp (w:World) (F:Nat→Prop) (u:Value) (sh:List (List Nat)) (hp:Nat→Value) (hk:Nat→Nat→Value):Prop :=
 Sh1 w F u 10 sh.length (fun i q v=>(q=8→IntV v)∧(q=9→v=hp i∧IsSl (hp i))) ∧
 (∀ i ps,sh[i]?=some ps→Sh1 w F (hp i) 3 ps.length (fun j q v=>(q=0→IntV v)∧(q=2→v=hk i j∧IsSl (hk i j)))) ∧
 ∀ i ps,sh[i]?=some ps→∀ j k,ps[j]?=some k→Sh1 w F (hk i j) 1 k (fun _ _ v=>IntV v)
theorem int_sl {v:Value} (h:IntV v) (h':IsSl v):False:=by
 obtain ⟨z,rfl⟩:=h
 obtain ⟨A,n,m,e⟩:=h'
 cases e
theorem cl_n {hp:Nat→Value} {c:Nat} {q9:Nat} (hne:c≠q9):Cl (fun i q v=>(q=c→IntV v)∧(q=q9→v=hp i∧IsSl (hp i))):=fun i q v v' h h' ⟨h1,h2⟩ =>
 ⟨fun _=>h',fun e=>by obtain ⟨e1,e2⟩:=h2 e;rw [e1] at h;exact (int_sl h e2).elim⟩
def Res.shp (u:Value) (sh:List (List Nat)) (hp:Nat→Value) (hk:Nat→Nat→Value):Res :=
 ⟨fun Z w F=>Shp w F u sh hp hk∧∀ b,F b→NoFz w b,
  fun hz hkp h=>⟨⟨h.1.1.keep fun b hb=>hkp b (.inr hb),fun i ps e=>(h.1.2.1 i ps e).keep fun b hb=>hkp b (.inr hb),fun i ps e j k e'=>(h.1.2.2 i ps e j k e').keep fun b hb=>hkp b (.inr hb)⟩,fun b hb=>(h.2 b hb).keep (hkp b (.inr hb))⟩⟩
section
variable {u:Value} {sh:List (List Nat)} {hp:Nat→Value} {hk:Nat→Nat→Value}
theorem shp_W (Z:Nat→Prop) (w:World) (F:Nat→Prop) (ad:Addr) (v v':Value) (h:(Res.shp u sh hp hk).h Z w F) (hF:F ad.block) (h0:w.cell? ad=some v) (hv:IntV v) (hv':IntV v'):(Res.shp u sh hp hk).h Z (w.setCell ad v') F :=
 ⟨⟨h.1.1.write (cl_n (by decide)) h0 hv hv',fun i ps e=>(h.1.2.1 i ps e).write (cl_n (by decide)) h0 hv hv',fun i ps e j k e'=>(h.1.2.2 i ps e j k e').write (fun _ _ _ _ _ h _=>h) h0 hv hv'⟩,fun b hb=>(h.2 b hb).write⟩
theorem shp_N (Z:Nat→Prop) (w:World) (F:Nat→Prop) (b:Nat) (h:(Res.shp u sh hp hk).h Z w F) (hb:F b):NoFz w b:=h.2 b hb
theorem shp_1 (Z:Nat→Prop) (w:World) (F:Nat→Prop) (h:(Res.shp u sh hp hk).h Z w F):Sh1 w F u 10 sh.length (fun i q v=>(q=8→IntV v)∧(q=9→v=hp i∧IsSl (hp i))):=h.1.1
theorem shp_2 {i:Int} (h0:0≤i) (h1:i<sh.length) (Z:Nat→Prop) (w:World) (F:Nat→Prop) (h:(Res.shp u sh hp hk).h Z w F):Sh1 w F (hp i.toNat) 3 (rd sh i).length (fun j q v=>(q=0→IntV v)∧(q=2→v=hk i.toNat j∧IsSl (hk i.toNat j))):=h.1.2.1 _ _ (rd_get h0 h1)
theorem shp_3 {i j:Int} (h0:0≤i) (h1:i<sh.length) (g0:0≤j) (g1:j<(rd sh i).length) (Z:Nat→Prop) (w:World) (F:Nat→Prop) (h:(Res.shp u sh hp hk).h Z w F):Sh1 w F (hk i.toNat j.toNat) 1 (rd (rd sh i) j) (fun _ _ v=>IntV v):=h.1.2.2 _ _ (rd_get h0 h1) _ _ (rd_get g0 g1)
end
theorem fsl_sh1 {T:Type} {c:Co T} {xs:List T} {F:Nat→Prop} {w:World} {u:Value} {cell:Nat→Nat→Value→Prop} (h:(AV.fsl c xs).p F w u)
  (hc:∀ A m a,u = .slice A xs.length m→A=some a→∀ i x,xs[i]?=some x→∀ vs,AllP F w (c.e x) vs→(∀ q v,vs[q]?=some v→w.cell? (a.add (i*c.sz+q))=some v)→∀ q v,vs[q]?=some v→cell i q v):Sh1 w F u c.sz xs.length cell:=by
 obtain ⟨A,m,e,_,hel⟩:=h
 refine ⟨A,m,e,fun i hi=>?_⟩
 obtain ⟨a,ea,hF,vs,h1,h2⟩:=hel i xs[i] (List.getElem?_eq_getElem hi)
 have h3:∀ q v,vs[q]?=some v→w.cell? (a.add (i*c.sz+q))=some v:=fun q v hv=>by rw [← add_add];exact h2 q v hv
 refine ⟨a,ea,hF,fun q hq=>?_⟩
 have hl:vs.length=c.sz:=by rw [← h1.length,c.len]
 have hv:vs[q]?=some (vs[q]'(by omega)):=List.getElem?_eq_getElem (by omega)
 exact ⟨_,h3 q _ hv,hc A m a e ea i _ (List.getElem?_eq_getElem hi) vs h1 h3 q _ hv⟩
def cellAt (w:World) (u:Value) (i:Nat):Value:=match u with
 | .slice (some a) _ _=>(w.cell? (a.add i)).getD undef
 | _=>undef
theorem cellAt_of {w:World} {a:Addr} {n m i:Nat} {v:Value} (h:w.cell? (a.add i)=some v):cellAt w (.slice (some a) n m) i=v:=by simp [cellAt,h]
end S
open S
set_option linter.unusedVariables false
structure Place where
 Rule:Int
 Conj:Int
 Pos:Int
 deriving DecidableEq
def zPlace:Place:=⟨(0:Int),(0:Int),(0:Int)⟩
instance:Inhabited Place:=⟨zPlace⟩
def cPlace:Co Place:=⟨fun x=>[Ai .i64 x.Rule,Ai .i64 x.Conj,Ai .i64 x.Pos],3,by decide,fun _=>rfl,fun _=>⟨oLit rfl,oLit rfl,oLit rfl,trivial⟩⟩
structure Pick where
 At:Int
 Conj:Int
 Kids:(List Int)
 deriving DecidableEq
def zPick:Pick:=⟨(0:Int),(0:Int),([]:(List Int))⟩
instance:Inhabited Pick:=⟨zPick⟩
def cPick:Co Pick:=⟨fun x=>[Ai .i64 x.At,Ai .i64 x.Conj,.fsl (cI .i64) x.Kids],3,by decide,fun _=>rfl,fun _=>⟨oLit rfl,oLit rfl,oFsl,trivial⟩⟩
structure Node where
 Sign:Bool
 Kind:Int
 Name:Int
 Place:Place
 I:Int
 J:Int
 Rank:Int
 Picks:(List Pick)
 deriving DecidableEq
def zNode:Node:=⟨false,(0:Int),(0:Int),(zPlace:Place),(0:Int),(0:Int),(0:Int),([]:(List Pick))⟩
instance:Inhabited Node:=⟨zNode⟩
def cNode:Co Node:=⟨fun x=>[Ab x.Sign,Ai .i64 x.Kind,Ai .i64 x.Name,Ai .i64 x.Place.Rule,Ai .i64 x.Place.Conj,Ai .i64 x.Place.Pos,Ai .i64 x.I,Ai .i64 x.J,Ai .i64 x.Rank,.fsl cPick x.Picks],10,by decide,fun _=>rfl,fun _=>⟨oLit rfl,oLit rfl,oLit rfl,oLit rfl,oLit rfl,oLit rfl,oLit rfl,oLit rfl,oLit rfl,oFsl,trivial⟩⟩
structure Cert where
 Root:Int
 Nodes:(List Node)
 deriving DecidableEq
def zCert:Cert:=⟨(0:Int),([]:(List Node))⟩
instance:Inhabited Cert:=⟨zCert⟩
def cCert:Co Cert:=⟨fun x=>[Ai .i64 x.Root,.fsl cNode x.Nodes],2,by decide,fun _=>rfl,fun _=>⟨oLit rfl,oFsl,trivial⟩⟩
structure Pack_writer where
 out_:(List Int)
 bad:Bool
 deriving DecidableEq
def zPack_writer:Pack_writer:=⟨([]:(List Int)),false⟩
instance:Inhabited Pack_writer:=⟨zPack_writer⟩
structure Pack_reader where
 s:ByteArray
 bad:Bool
 deriving DecidableEq
def zPack_reader:Pack_reader:=⟨(⟨#[]⟩:ByteArray),false⟩
instance:Inhabited Pack_reader:=⟨zPack_reader⟩
structure J0 where
 s:ByteArray
 at_:Int
 bad:Bool
 deriving DecidableEq
def zTempleref18_reader:J0:=⟨(⟨#[]⟩:ByteArray),(0:Int),false⟩
instance:Inhabited J0:=⟨zTempleref18_reader⟩
def cA2_Int_i64:Co (Int×Int):=⟨fun x=>[Ai .i64 x.1,Ai .i64 x.2],2,by decide,fun _=>rfl,fun _=>⟨oLit rfl,oLit rfl,trivial⟩⟩
def rc (x:Place):Prop:=(wfI .i64) x.Rule∧(wfI .i64) x.Conj∧(wfI .i64) x.Pos
def wc (x:Pick):Prop:=(wfI .i64) x.At∧(wfI .i64) x.Conj∧(wfL (wfI .i64) 8) x.Kids
def yc (x:Node):Prop:=wfB x.Sign∧(wfI .i64) x.Kind∧(wfI .i64) x.Name∧rc x.Place∧(wfI .i64) x.I∧(wfI .i64) x.J∧(wfI .i64) x.Rank∧(wfL wc 40) x.Picks
def cc (x:Cert):Prop:=(wfI .i64) x.Root∧(wfL yc 96) x.Nodes
theorem fa60_1:FA Try.prog 60 1 1:=fun _ _=>by kernel_rfl
theorem z4:SizeIs Try.prog 4 1:=fun _=>by kernel_rfl
theorem fa60_0:FA Try.prog 60 0 0:=fun _ _=>by kernel_rfl
theorem g56:IsAgg Try.prog 56 false:=fun _=>by kernel_rfl
theorem z5:SizeIs Try.prog 5 1:=fun _=>by kernel_rfl
theorem jb:Info Try.prog 5 (.int .u8 0) 1 1:=by unfold Info;kernel_rfl
theorem mixed:Try.prog.follows .mixedOrders=true:=by kernel_rfl
theorem z56:SizeIs Try.prog 56 1:=fun _=>by kernel_rfl
theorem z62:SizeIs Try.prog 62 2:=fun _=>by kernel_rfl
theorem g62:IsAgg Try.prog 62 true:=fun _=>by kernel_rfl
theorem al62:∀ w,(Instr.alloc 62 true (.tuple #[])).run Try.prog w = .ok (.pointer (some ⟨w.heap.size,0,none⟩)) (w.alloc (.cells ([.int .i64 0,.int .i64 0]:List Value).toArray 62)):=fun _=>by kernel_rfl
theorem ia62_i64_0:IA Try.prog 62 .i64 0 0:=fun _ _=>by kernel_rfl
theorem g3:IsAgg Try.prog 3 false:=fun _=>by kernel_rfl
theorem ia62_i64_1:IA Try.prog 62 .i64 1 1:=fun _ _=>by kernel_rfl
theorem ent36:Ent Try.prog 36:=fun _ _=>by kernel_rfl
theorem fa46_1:FA Try.prog 46 1 1:=fun _ _=>by kernel_rfl
theorem fa46_3:FA Try.prog 46 3 3:=fun _ _=>by kernel_rfl
theorem g43:IsAgg Try.prog 43 true:=fun _=>by kernel_rfl
theorem z43:SizeIs Try.prog 43 3:=fun _=>by kernel_rfl
theorem zv43:∀ w,(zeroValue 43).run Try.prog w = .ok (.agg ([.int .i64 0,.int .i64 0,.int .i64 0]:List Value).toArray) w:=fun _=>by kernel_rfl
theorem pl43:∀ w,((#[{ name := "Rule",type:=3,offset:=0,embedded:=false,tag := "",pkgPath := "",byteOffset:=0 },{ name := "Conj",type:=3,offset:=1,embedded:=false,tag := "",pkgPath := "",byteOffset:=8 },{ name := "Pos",type:=3,offset:=2,embedded:=false,tag := "",pkgPath := "",byteOffset:=16 }]:Array Field).mapM (m:=Sem) fun f=>do pure (f.offset,← sizeOf f.type)).run Try.prog w = .ok #[(0,1),(1,1),(2,1)] w:=fun _=>by kernel_rfl
def litsPlace (x:Place):List Value:=[.int .i64 x.Rule,.int .i64 x.Conj,.int .i64 x.Pos]
theorem eqi43 {d:Nat} (w:World) (x y:Place):(Op.equalIn (d+2) 43 (.agg (litsPlace x).toArray) (.agg (litsPlace y).toArray)).run Try.prog w = .ok (decide (x=y)) w:=by
 have hu:Try.prog.underlying 43=some (.struct (Try.prog.fieldsOf 43)):=by kernel_rfl
 have hp:Try.prog.stoodInHeld 43=false:=by kernel_rfl
 have hf:(Try.prog.fieldsOf 43).toList=[{ name := "Rule",type:=3,offset:=0,embedded:=false,tag := "",pkgPath := "",byteOffset:=0 },{ name := "Conj",type:=3,offset:=1,embedded:=false,tag := "",pkgPath := "",byteOffset:=8 },{ name := "Pos",type:=3,offset:=2,embedded:=false,tag := "",pkgPath := "",byteOffset:=16 }]:=by kernel_rfl
 rw [run_equalIn_struct w _ 43 _ _ hu hp,hf]
 rw [eqF_int (f:={ name := "Rule",type:=3,offset:=0,embedded:=false,tag := "",pkgPath := "",byteOffset:=0 }) (a:=x.Rule) (b:=y.Rule) (by decide +kernel) g3 Try.underlying3 rfl rfl,eqF_int (f:={ name := "Conj",type:=3,offset:=1,embedded:=false,tag := "",pkgPath := "",byteOffset:=8 }) (a:=x.Conj) (b:=y.Conj) (by decide +kernel) g3 Try.underlying3 rfl rfl,eqF_int (f:={ name := "Pos",type:=3,offset:=2,embedded:=false,tag := "",pkgPath := "",byteOffset:=16 }) (a:=x.Pos) (b:=y.Pos) (by decide +kernel) g3 Try.underlying3 rfl rfl,eqF_nil]
 simp only [ok_ite]
 exact congrArg (fun b=>Result.ok b w) (decide_eq_decide.2 ⟨fun h=>by cases x;cases y;simp_all,fun h=>by subst h;simp⟩)
theorem eq43 {n:Nat} {fr:Fr} {H:List Res} {t' ty:TypeId} {a b:Operand} {x y:Place} (hx:arg fr a=some (.agg (cPlace.e x))) (hy:arg fr b=some (.agg (cPlace.e y))):D Try.prog n H (.binOp .eql 43 a b t') ty fr (Ab (decide (x=y))):=je litsPlace (by kernel_rfl) (fun _=>rfl) (fun w x y=>eqi43 (d:=9998) w x y) hx hy
theorem eq43n {n:Nat} {fr:Fr} {H:List Res} {t' ty:TypeId} {a b:Operand} {x y:Place} (hx:arg fr a=some (.agg (cPlace.e x))) (hy:arg fr b=some (.agg (cPlace.e y))):D Try.prog n H (.binOp .neq 43 a b t') ty fr (Ab (decide (x≠y))):=qe litsPlace (by kernel_rfl) (fun _=>rfl) (fun w x y=>eqi43 (d:=9998) w x y) hx hy
theorem fa46_2:FA Try.prog 46 2 2:=fun _ _=>by kernel_rfl
theorem g4:IsAgg Try.prog 4 false:=fun _=>by kernel_rfl
theorem ent37:Ent Try.prog 37:=fun _ _=>by kernel_rfl
theorem fa46_0:FA Try.prog 46 0 0:=fun _ _=>by kernel_rfl
theorem ent38:Ent Try.prog 38:=fun _ _=>by kernel_rfl
theorem zv62:∀ w,(zeroValue 62).run Try.prog w = .ok (.agg ([.int .i64 0,.int .i64 0]:List Value).toArray) w:=fun _=>by kernel_rfl
theorem z3:SizeIs Try.prog 3 1:=fun _=>by kernel_rfl
theorem fa43_0:FA Try.prog 43 0 0:=fun _ _=>by kernel_rfl
theorem fa43_1:FA Try.prog 43 1 1:=fun _ _=>by kernel_rfl
theorem fa43_2:FA Try.prog 43 2 2:=fun _ _=>by kernel_rfl
theorem Mb:Info Try.prog 62 (.agg #[.int .i64 0,.int .i64 0]) 2 16:=by unfold Info;kernel_rfl
theorem ent20:Ent Try.prog 20:=fun _ _=>by kernel_rfl
theorem fa46_4:FA Try.prog 46 4 6:=fun _ _=>by kernel_rfl
theorem fa46_5:FA Try.prog 46 5 7:=fun _ _=>by kernel_rfl
theorem fa46_6:FA Try.prog 46 6 8:=fun _ _=>by kernel_rfl
theorem fa46_7:FA Try.prog 46 7 9:=fun _ _=>by kernel_rfl
theorem g44:IsAgg Try.prog 44 false:=fun _=>by kernel_rfl
theorem z49:SizeIs Try.prog 49 3:=fun _=>by kernel_rfl
theorem g49:IsAgg Try.prog 49 true:=fun _=>by kernel_rfl
theorem al49:∀ w,(Instr.alloc 49 true (.tuple #[])).run Try.prog w = .ok (.pointer (some ⟨w.heap.size,0,none⟩)) (w.alloc (.cells ([.int .i64 0,.int .i64 0,.slice none 0 0]:List Value).toArray 49)):=fun _=>by kernel_rfl
theorem fa49_0:FA Try.prog 49 0 0:=fun _ _=>by kernel_rfl
theorem fa49_1:FA Try.prog 49 1 1:=fun _ _=>by kernel_rfl
theorem fa49_2:FA Try.prog 49 2 2:=fun _ _=>by kernel_rfl
theorem g47:IsAgg Try.prog 47 false:=fun _=>by kernel_rfl
theorem zv60:∀ w,(zeroValue 60).run Try.prog w = .ok (.agg ([.slice none 0 0,.bool false]:List Value).toArray) w:=fun _=>by kernel_rfl
theorem pl60:∀ w,((#[{ name := "out",type:=56,offset:=0,embedded:=false,tag := "",pkgPath := "temple/pack",byteOffset:=0 },{ name := "bad",type:=4,offset:=1,embedded:=false,tag := "",pkgPath := "temple/pack",byteOffset:=24 }]:Array Field).mapM (m:=Sem) fun f=>do pure (f.offset,← sizeOf f.type)).run Try.prog w = .ok #[(0,1),(1,1)] w:=fun _=>by kernel_rfl
theorem fa24_0:FA Try.prog 24 0 0:=fun _ _=>by kernel_rfl
theorem fa24_1:FA Try.prog 24 1 1:=fun _ _=>by kernel_rfl
theorem g22:IsAgg Try.prog 22 false:=fun _=>by kernel_rfl
theorem z46:SizeIs Try.prog 46 10:=fun _=>by kernel_rfl
theorem ent21:Ent Try.prog 21:=fun _ _=>by kernel_rfl
theorem ent46:Ent Try.prog 46:=fun _ _=>by kernel_rfl
theorem ent40:Ent Try.prog 40:=fun _ _=>by kernel_rfl
theorem fa72_1:FA Try.prog 72 1 1:=fun _ _=>by kernel_rfl
theorem fa72_0:FA Try.prog 72 0 0:=fun _ _=>by kernel_rfl
theorem g9:IsAgg Try.prog 9 false:=fun _=>by kernel_rfl
theorem z9:SizeIs Try.prog 9 1:=fun _=>by kernel_rfl
theorem ent28:Ent Try.prog 28:=fun _ _=>by kernel_rfl
theorem ni3:NoIface Try.prog 3:=⟨_,Try.underlying3,by intro ms h;cases h⟩
theorem z20:SizeIs Try.prog 20 1:=fun _=>by kernel_rfl
theorem g20:IsAgg Try.prog 20 false:=fun _=>by kernel_rfl
theorem La:Info Try.prog 3 (.int .i64 0) 1 8:=by unfold Info;kernel_rfl
theorem ent51:Ent Try.prog 51:=fun _ _=>by kernel_rfl
theorem zv49:∀ w,(zeroValue 49).run Try.prog w = .ok (.agg ([.int .i64 0,.int .i64 0,.slice none 0 0]:List Value).toArray) w:=fun _=>by kernel_rfl
theorem pl49:∀ w,((#[{ name := "At",type:=3,offset:=0,embedded:=false,tag := "",pkgPath := "",byteOffset:=0 },{ name := "Conj",type:=3,offset:=1,embedded:=false,tag := "",pkgPath := "",byteOffset:=8 },{ name := "Kids",type:=47,offset:=2,embedded:=false,tag := "",pkgPath := "",byteOffset:=16 }]:Array Field).mapM (m:=Sem) fun f=>do pure (f.offset,← sizeOf f.type)).run Try.prog w = .ok #[(0,1),(1,1),(2,1)] w:=fun _=>by kernel_rfl
theorem ent49:Ent Try.prog 49:=fun _ _=>by kernel_rfl
theorem W8:Info Try.prog 20 (.nilIface) 1 16:=by unfold Info;kernel_rfl
theorem ent30:Ent Try.prog 30:=fun _ _=>by kernel_rfl
theorem ent48:Ent Try.prog 48:=fun _ _=>by kernel_rfl
theorem z47:SizeIs Try.prog 47 1:=fun _=>by kernel_rfl
theorem ni49:NoIface Try.prog 49:=⟨_,Try.underlying49,by intro ms h;cases h⟩
theorem Q9:Info Try.prog 49 (.agg #[.int .i64 0,.int .i64 0,.slice none 0 0]) 3 40:=by unfold Info;kernel_rfl
theorem ent47:Ent Try.prog 47:=fun _ _=>by kernel_rfl
theorem zv46:∀ w,(zeroValue 46).run Try.prog w = .ok (.agg ([.bool false,.int .i64 0,.int .i64 0,.int .i64 0,.int .i64 0,.int .i64 0,.int .i64 0,.int .i64 0,.int .i64 0,.slice none 0 0]:List Value).toArray) w:=fun _=>by kernel_rfl
theorem pl46:∀ w,((#[{ name := "Sign",type:=4,offset:=0,embedded:=false,tag := "",pkgPath := "",byteOffset:=0 },{ name := "Kind",type:=3,offset:=1,embedded:=false,tag := "",pkgPath := "",byteOffset:=8 },{ name := "Name",type:=3,offset:=2,embedded:=false,tag := "",pkgPath := "",byteOffset:=16 },{ name := "Place",type:=43,offset:=3,embedded:=false,tag := "",pkgPath := "",byteOffset:=24 },{ name := "I",type:=3,offset:=6,embedded:=false,tag := "",pkgPath := "",byteOffset:=48 },{ name := "J",type:=3,offset:=7,embedded:=false,tag := "",pkgPath := "",byteOffset:=56 },{ name := "Rank",type:=3,offset:=8,embedded:=false,tag := "",pkgPath := "",byteOffset:=64 },{ name := "Picks",type:=44,offset:=9,embedded:=false,tag := "",pkgPath := "",byteOffset:=72 }]:Array Field).mapM (m:=Sem) fun f=>do pure (f.offset,← sizeOf f.type)).run Try.prog w = .ok #[(0,1),(1,1),(2,1),(3,3),(6,1),(7,1),(8,1),(9,1)] w:=fun _=>by kernel_rfl
theorem al46:∀ w,(Instr.alloc 46 true (.tuple #[])).run Try.prog w = .ok (.pointer (some ⟨w.heap.size,0,none⟩)) (w.alloc (.cells ([.bool false,.int .i64 0,.int .i64 0,.int .i64 0,.int .i64 0,.int .i64 0,.int .i64 0,.int .i64 0,.int .i64 0,.slice none 0 0]:List Value).toArray 46)):=fun _=>by kernel_rfl
theorem ent43:Ent Try.prog 43:=fun _ _=>by kernel_rfl
theorem ent42:Ent Try.prog 42:=fun _ _=>by kernel_rfl
theorem z44:SizeIs Try.prog 44 1:=fun _=>by kernel_rfl
theorem g46:IsAgg Try.prog 46 true:=fun _=>by kernel_rfl
theorem ni46:NoIface Try.prog 46:=⟨_,Try.underlying46,by intro ms h;cases h⟩
theorem P9:Info Try.prog 46 (.agg #[.bool false,.int .i64 0,.int .i64 0,.int .i64 0,.int .i64 0,.int .i64 0,.int .i64 0,.int .i64 0,.int .i64 0,.slice none 0 0]) 10 96:=by unfold Info;kernel_rfl
theorem ent41:Ent Try.prog 41:=fun _ _=>by kernel_rfl
theorem al24:∀ w,(Instr.alloc 24 true (.tuple #[])).run Try.prog w = .ok (.pointer (some ⟨w.heap.size,0,none⟩)) (w.alloc (.cells ([.int .i64 0,.slice none 0 0]:List Value).toArray 24)):=fun _=>by kernel_rfl
theorem zv24:∀ w,(zeroValue 24).run Try.prog w = .ok (.agg ([.int .i64 0,.slice none 0 0]:List Value).toArray) w:=fun _=>by kernel_rfl
theorem pl24:∀ w,((#[{ name := "Root",type:=3,offset:=0,embedded:=false,tag := "",pkgPath := "",byteOffset:=0 },{ name := "Nodes",type:=22,offset:=1,embedded:=false,tag := "",pkgPath := "",byteOffset:=8 }]:Array Field).mapM (m:=Sem) fun f=>do pure (f.offset,← sizeOf f.type)).run Try.prog w = .ok #[(0,1),(1,1)] w:=fun _=>by kernel_rfl
theorem z24:SizeIs Try.prog 24 2:=fun _=>by kernel_rfl
theorem g24:IsAgg Try.prog 24 true:=fun _=>by kernel_rfl
theorem ent27:Ent Try.prog 27:=fun _ _=>by kernel_rfl
theorem zv72:∀ w,(zeroValue 72).run Try.prog w = .ok (.agg ([.string ⟨#[]⟩,.bool false]:List Value).toArray) w:=fun _=>by kernel_rfl
theorem pl72:∀ w,((#[{ name := "s",type:=9,offset:=0,embedded:=false,tag := "",pkgPath := "temple/pack",byteOffset:=0 },{ name := "bad",type:=4,offset:=1,embedded:=false,tag := "",pkgPath := "temple/pack",byteOffset:=16 }]:Array Field).mapM (m:=Sem) fun f=>do pure (f.offset,← sizeOf f.type)).run Try.prog w = .ok #[(0,1),(1,1)] w:=fun _=>by kernel_rfl
theorem ent31:Ent Try.prog 31:=fun _ _=>by kernel_rfl
theorem ent29:Ent Try.prog 29:=fun _ _=>by kernel_rfl
theorem z22:SizeIs Try.prog 22 1:=fun _=>by kernel_rfl
theorem ent50:Ent Try.prog 50:=fun _ _=>by kernel_rfl
theorem ent45:Ent Try.prog 45:=fun _ _=>by kernel_rfl
theorem ent34:Ent Try.prog 34:=fun _ _=>by kernel_rfl
theorem ent10:Ent Try.prog 10:=fun _ _=>by kernel_rfl
theorem ent12:Ent Try.prog 12:=fun _ _=>by kernel_rfl
theorem ent14:Ent Try.prog 14:=fun _ _=>by kernel_rfl
theorem ent15:Ent Try.prog 15:=fun _ _=>by kernel_rfl
theorem ent17:Ent Try.prog 17:=fun _ _=>by kernel_rfl
theorem ent22:Ent Try.prog 22:=fun _ _=>by kernel_rfl
theorem ent39:Ent Try.prog 39:=fun _ _=>by kernel_rfl
theorem ent23:Ent Try.prog 23:=fun _ _=>by kernel_rfl
theorem ent24:Ent Try.prog 24:=fun _ _=>by kernel_rfl
theorem ent25:Ent Try.prog 25:=fun _ _=>by kernel_rfl
theorem ent26:Ent Try.prog 26:=fun _ _=>by kernel_rfl
theorem fa80_2:FA Try.prog 80 2 2:=fun _ _=>by kernel_rfl
theorem fa80_0:FA Try.prog 80 0 0:=fun _ _=>by kernel_rfl
theorem fa80_1:FA Try.prog 80 1 1:=fun _ _=>by kernel_rfl
theorem ent32:Ent Try.prog 32:=fun _ _=>by kernel_rfl
theorem ent44:Ent Try.prog 44:=fun _ _=>by kernel_rfl
theorem zv80:∀ w,(zeroValue 80).run Try.prog w = .ok (.agg ([.string ⟨#[]⟩,.int .i64 0,.bool false]:List Value).toArray) w:=fun _=>by kernel_rfl
theorem pl80:∀ w,((#[{ name := "s",type:=9,offset:=0,embedded:=false,tag := "",pkgPath := "temple/templeref18",byteOffset:=0 },{ name := "at",type:=3,offset:=1,embedded:=false,tag := "",pkgPath := "temple/templeref18",byteOffset:=16 },{ name := "bad",type:=4,offset:=2,embedded:=false,tag := "",pkgPath := "temple/templeref18",byteOffset:=24 }]:Array Field).mapM (m:=Sem) fun f=>do pure (f.offset,← sizeOf f.type)).run Try.prog w = .ok #[(0,1),(1,1),(2,1)] w:=fun _=>by kernel_rfl
theorem ent33:Ent Try.prog 33:=fun _ _=>by kernel_rfl
theorem ent11:Ent Try.prog 11:=fun _ _=>by kernel_rfl
theorem g5:IsAgg Try.prog 5 false:=fun _=>by kernel_rfl
theorem ent13:Ent Try.prog 13:=fun _ _=>by kernel_rfl
theorem ent9:Ent Try.prog 9:=fun _ _=>by kernel_rfl
def muPlace (x:Place):Nat:=(muI x.Rule+(muI x.Conj+(muI x.Pos+0)))+1
def muPick (x:Pick):Nat:=(muI x.At+(muI x.Conj+((muL muI) x.Kids+0)))+1
def muNode (x:Node):Nat:=(muB x.Sign+(muI x.Kind+(muI x.Name+(muPlace x.Place+(muI x.I+(muI x.J+(muI x.Rank+((muL muPick) x.Picks+0))))))))+1
def muCert (x:Cert):Nat:=(muI x.Root+((muL muNode) x.Nodes+0))+1
namespace S
set_option linter.unusedVariables false
set_option linter.unusedSimpArgs false
theorem wr {a:Int} (h0:-9223372036854775808≤a) (h1:a≤9223372036854775807):IntKind.wrap .i64 a=a:=by rw [IntKind.wrap_i64];omega
theorem wrap_u64 (n:Int):IntKind.u64.wrap n=n % 18446744073709551616:=by simp [IntKind.wrap,IntKind.bits,IntKind.signed]
theorem wu {a:Int} (h0:0≤a) (h1:a<18446744073709551616):IntKind.wrap .u64 a=a:=by rw [wrap_u64];omega
theorem rounds {σ ρ:Type} {L:Nat→σ→Option ρ} (I:σ→Prop) (μ:σ→Nat) (Q:ρ→Prop)
  (step:∀ s m,I s→(∃ r,L (m+1) s=some r∧Q r)∨∃ s',I s'∧μ s'<μ s∧L (m+1) s=L m s'):∀ m s,I s→μ s<m→∃ r,L m s=some r∧Q r:=by
 intro m
 induction m with
 | zero=>intro s _ h;exact absurd h (Nat.not_lt_zero _)
 | succ m ih =>
  intro s hi hm
  rcases step s m hi with h | ⟨s',hi',hlt,he⟩
  ·exact h
  ·obtain ⟨r,h1,h2⟩:=ih s' hi' (by omega)
   exact ⟨r,he.trans h1,h2⟩
theorem iand_mask (x:Int) (k:Nat) (hk:k<63):iand .i64 x ((2 ^ k-1:Nat):Int)=x % ((2 ^ k:Nat):Int):=by
 have hp:2 ^ k≤2 ^ 62:=Nat.pow_le_pow_right (by decide) (by omega)
 have hm:(2 ^ k-1) % 2 ^ 64=2 ^ k-1:=Nat.mod_eq_of_lt (by simp only [Nat.reducePow] at *;omega)
 unfold iand
 rw [BitVec.ofInt_natCast,BitVec.toNat_and,BitVec.toNat_ofNat,show IntKind.i64.bits=64 from rfl,hm,Nat.and_two_pow_sub_one_eq_mod,BitVec.toNat_ofInt]
 have h1:(((x % ((2 ^ 64:Nat):Int)).toNat % 2 ^ k:Nat):Int)=x % ((2 ^ k:Nat):Int):=by
  rw [Int.natCast_emod,Int.toNat_of_nonneg (Int.emod_nonneg _ (by decide))]
  exact Int.emod_emod_of_dvd _ (by exact_mod_cast Nat.pow_dvd_pow 2 (by omega))
 rw [h1]
 have h2:0≤x % ((2 ^ k:Nat):Int):=Int.emod_nonneg _ (by have:=Nat.two_pow_pos k;omega)
 have h3:x % ((2 ^ k:Nat):Int)<((2 ^ k:Nat):Int):=Int.emod_lt_of_pos _ (by have:=Nat.two_pow_pos k;omega)
 have h4:((2 ^ k:Nat):Int)≤((2 ^ 62:Nat):Int):=Int.ofNat_le.2 hp
 exact wr (by omega) (by simp only [Nat.reducePow,Nat.reducePow] at h4;omega)
theorem and255 (x:Int):iand .i64 x 255=x % 256:=iand_mask x 8 (by decide)
variable {T:Type} [Inhabited T]
theorem rd_nat (xs:List T) (i:Nat):rd xs (i:Int)=xs.getD i default:=rfl
theorem rd_mem {xs:List T} {i:Int} (h0:0≤i) (h:i<xs.length):rd xs i ∈ xs:=List.mem_of_getElem? (rd_get h0 h)
end S
set_option maxRecDepth 100000
set_option maxHeartbeats 4000000
def M2.l0 (K:Nat) (x4:Int):Nat→((List Int)×Int)→Option ((List Int)×Int)
 | 0,_=>none
 | m+1,(xs10,i11)=>if 0≤i11 then if 0≤IntKind.wrap .i64 (8*i11) then if (xs10.length+([IntKind.wrap .u8 (ishr .i64 x4 (IntKind.wrap .i64 (8*i11)))]:List Int).length)*1≤140737488355328 then M2.l0 K x4 m (xs10++([IntKind.wrap .u8 (ishr .i64 x4 (IntKind.wrap .i64 (8*i11)))]:List Int),IntKind.wrap .i64 (i11-1)) else none else none else some (xs10,i11)
def M2 (K:Nat) (w1:Pack_writer) (x4:Int) (size5:Int):Option Pack_writer:=if x4<0 then some (⟨w1.out_,true⟩:Pack_writer) else if 0≤IntKind.wrap .i64 (8*size5) then if (ishr .u64 (IntKind.wrap .u64 x4) (IntKind.wrap .i64 (8*size5)))≠0 then some (⟨w1.out_,true⟩:Pack_writer) else (M2.l0 K x4 K (w1.out_,IntKind.wrap .i64 (size5-1))).bind fun (xs10,i11)=>some (⟨xs10,w1.bad⟩:Pack_writer) else none
theorem J8 (K:Nat) (w1:Pack_writer) (x4:Int) (size5:Int) (b2:Nat) (v3:Value):Hands Try.prog 36 [.lit (.pointer (some ⟨b2,0,none⟩)),Ai .i64 x4,Ai .i64 size5] ([.box b2 [.sv v3,Ab w1.bad],.own 5 (cI .u8) v3 w1.out_]) (M2 K w1 x4 size5) (fun (r:Pack_writer) (v:Value)=>.any) (fun (r:Pack_writer) (v:Value)=>[.box b2 [.sv v,Ab r.bad],.own 5 (cI .u8) v r.out_]):=by
 refine obj_of Try.func36 rfl Try.ntmps36 (le_ rfl) ?_
 refine Q0<|Q0<|G0 rfl<|sQ (dMv rfl) rfl<|sQ (dLt rfl rfl) rfl<|sQ (dMv rfl) rfl<|Q4 (fun h6=>?_) (fun h6=>?_)
 ·refine sQu (j:=2) rfl rfl rfl (decide_eq_true h6) rfl rfl<|sQu (j:=2) rfl rfl rfl (decide_eq_true h6) rfl rfl<|sQu (j:=2) rfl rfl rfl (decide_eq_true h6) rfl rfl<|sQu (j:=2) rfl rfl rfl (decide_eq_true h6) rfl rfl<|sQu (j:=2) rfl rfl rfl (decide_eq_true h6) rfl rfl<|sQu (j:=2) rfl rfl rfl (decide_eq_true h6) rfl rfl<|sQ (W1 rfl (decide_eq_true h6) rfl) rfl<|j0<|L6 rfl rfl<|Q0<|G0 rfl<|sQ (dMv rfl) rfl<|sQ (dNc ptLit rfl) rfl<|sQ (P2 fa60_1 rfl) rfl<|V4 (j:=0) z4 rfl rfl rfl (cOne (oLit rfl)) ⟨(oLit rfl),trivial⟩ rfl (le_ rfl)<|j0<|sPk [0,0] (H':=[.box b2 [.sv v3,Ab true],.own 5 (cI .u8) v3 w1.out_]) rfl<|md [] Try.func36 Try.results36  ⟨v3,rfl,rfl⟩
 ·refine sQg (j:=2) rfl rfl rfl (decide_eq_false h6) rfl (dMv rfl) rfl<|sQg (j:=2) rfl rfl rfl (decide_eq_false h6) rfl (bc Try.underlying3 Try.underlying92 rfl) rfl<|sQg (j:=2) rfl rfl rfl (decide_eq_false h6) rfl (dMv rfl) rfl<|sQg (j:=2) rfl rfl rfl (decide_eq_false h6) rfl (bd rfl rfl) rfl<|t6 fun h7=>sQg (j:=2) rfl rfl rfl (decide_eq_false h6) rfl (Pd rfl rfl h7) rfl<|sQg (j:=2) rfl rfl rfl (decide_eq_false h6) rfl (dNe rfl rfl) rfl<|sQ (V0 rfl (decide_eq_false h6) rfl) rfl<|j0<|P5 rfl (fun h8=>?_) (fun h8=>?_)
  ·refine Q0<|G0 rfl<|sQ (dMv rfl) rfl<|sQ (dNc ptLit rfl) rfl<|sQ (P2 fa60_1 rfl) rfl<|V4 (j:=0) z4 rfl rfl rfl (cOne (oLit rfl)) ⟨(oLit rfl),trivial⟩ rfl (le_ rfl)<|j0<|sPk [0,0] (H':=[.box b2 [.sv v3,Ab true],.own 5 (cI .u8) v3 w1.out_]) rfl<|md [] Try.func36 Try.results36  ⟨v3,rfl,rfl⟩
  ·refine M3<|Q0<|G0 rfl<|sQ (dMv rfl) rfl<|sQ (vb rfl rfl) rfl<|sQ (dAs rfl) rfl<|j0<|G6 (M2.l0 K x4) (fun ((xs10,i11):((List Int)×Int)) (v9:Value)=>([(0,.lit (.pointer (some ⟨b2,0,none⟩))),(1,Ai .i64 x4),(6,Ai .i64 i11)]:Fr)) (fun ((xs10,i11):((List Int)×Int)) (v9:Value)=>([.box b2 [.sv v9,Ab w1.bad],.own 5 (cI .u8) v9 xs10]:List Res)) (fun ((xs10,i11):((List Int)×Int)) (v9:Value)=>([(0,.lit (.pointer (some ⟨b2,0,none⟩))),(1,Ai .i64 x4),(6,Ai .i64 i11)]:Fr)) (fun ((xs10,i11):((List Int)×Int)) (v9:Value)=>([.box b2 [.sv v9,Ab w1.bad],.own 5 (cI .u8) v9 xs10]:List Res)) v3 (fun _=>rfl) [] ⟨rfl,rfl,rfl,trivial⟩ rfl ?_ ?_
   ·rintro ⟨xs10,i11⟩ v9
    refine sPk [0,0] (H':=[.box b2 [.sv v9,Ab w1.bad],.own 5 (cI .u8) v9 xs10]) rfl<|jc Try.func36 Try.results36 ⟨v9,rfl,rfl⟩
   ·rintro m ⟨xs10,i11⟩ v9 again0 out0
    refine Q0<|Q0<|G0 rfl<|sQ (dMv rfl) rfl<|sQ (dGe rfl rfl) rfl<|j0<|P5 rfl (fun h12=>?_) (fun h12=>?_)
    ·refine M3<|Q0<|f7<|sIf fun h13=>sIf fun h14=>Pb [(0,26,.lit (.pointer (some ⟨b2,0,none⟩))),(1,27,.lit (.pointer (some ⟨b2,0,none⟩))),(2,28,.lit (.pointer (some ⟨b2,0,none⟩))),(3,29,.lit (.pointer (some ⟨b2,0,none⟩))),(4,30,.sv v9),(5,31,Ai .i64 x4),(6,32,Ai .i64 i11),(7,33,Ai .i64 (IntKind.wrap .i64 (8*i11))),(8,34,Ai .i64 (ishr .i64 x4 (IntKind.wrap .i64 (8*i11)))),(9,35,Ai .u8 (IntKind.wrap .u8 (ishr .i64 x4 (IntKind.wrap .i64 (8*i11))))),(10,36,.fsl (cI .u8) ([IntKind.wrap .u8 (ishr .i64 x4 (IntKind.wrap .i64 (8*i11)))]:List Int)),(12,38,.lit (.pointer (some ⟨b2,0,none⟩))),(13,39,.lit (.pointer (some ⟨b2,0,none⟩)))] [11,14] [[11,14]] mixed (by kernel_rfl) (by kernel_rfl) (by kernel_rfl) (by kernel_rfl) ⟨?_,trivial⟩
     ·refine mE [26,38,39] [0,1,2,3,4,5,6,7,8,9,10,12,13] (by kernel_rfl) (by kernel_rfl) (by kernel_rfl) (by kernel_rfl) rfl rfl (.c rfl rfl rfl rfl (.r (dMv rfl))<|.c rfl rfl rfl rfl (.r (dMv rfl))<|.c rfl rfl rfl rfl (.r (dNc ptLit rfl))<|.c rfl rfl rfl rfl (.r (P2 fa60_0 rfl))<|.c rfl rfl rfl rfl (.r (Q5 (j:=0) g56 rfl rfl rfl))<|.c rfl rfl rfl rfl (.r (dMv rfl))<|.c rfl rfl rfl rfl (.r (dMv rfl))<|.c rfl rfl rfl rfl (.r (bd rfl rfl))<|.c rfl rfl rfl rfl (.r (Pd rfl rfl h13))<|.c rfl rfl rfl rfl (.r (bc Try.underlying3 Try.underlying5 rfl))<|.c rfl rfl rfl rfl (.r (dBS (c:=(cI .u8)) (xs:=([IntKind.wrap .u8 (ishr .i64 x4 (IntKind.wrap .i64 (8*i11)))]:List Int)) Try.underlying56 z5 jb (.c rfl (cOne (oLit rfl)) .nil) rfl))<|.c rfl rfl rfl rfl (.r (dNc ptLit rfl))<|.c rfl rfl rfl rfl (.r (P2 fa60_0 rfl)) .n) ?_
      intro ab11 l11 nx11
      refine sAp (j:=1) Try.underlying56 jb rfl rfl rfl rfl h14 rfl rfl fun v16=>nx11 (H'':=[.box b2 [.sv v9,Ab w1.bad],.own 5 (cI .u8) v16 (xs10++([IntKind.wrap .u8 (ishr .i64 x4 (IntKind.wrap .i64 (8*i11)))]:List Int))]) [(37,.sv v16)] [0,0] ⟨rfl,trivial⟩ (by repeat (first | with_reducible exact .z | refine .s rfl ?_)) rfl (by kernel_rfl)<|mE [] [0,12,13] (by kernel_rfl) (by kernel_rfl) (by kernel_rfl) (by kernel_rfl) rfl rfl (.c rfl rfl rfl rfl (.r (dMv rfl))<|.c rfl rfl rfl rfl (.r (dNc ptLit rfl))<|.c rfl rfl rfl rfl (.r (P2 fa60_0 rfl)) .n) ?_
      intro ab14 l14 nx14
      refine V4 (j:=0) z56 rfl rfl rfl (cOne oSv) ⟨oSv,trivial⟩ rfl (le_ rfl)<|nx14 (H'':=[.box b2 [.sv v16,Ab w1.bad],.own 5 (cI .u8) v16 (xs10++([IntKind.wrap .u8 (ishr .i64 x4 (IntKind.wrap .i64 (8*i11)))]:List Int))]) [(37,.sv v16)] [0,0] ⟨rfl,trivial⟩ (by repeat (first | with_reducible exact .z | refine .s rfl ?_)) rfl (by kernel_rfl)<|mEnd [] (by kernel_rfl) (by kernel_rfl) (by kernel_rfl) (.n)<|P4<|G0 rfl<|sQ (dMv rfl) rfl<|sQ (vb rfl rfl) rfl<|sQ (dAs rfl) rfl<|j0<|k4 (again0 (xs10++([IntKind.wrap .u8 (ishr .i64 x4 (IntKind.wrap .i64 (8*i11)))]:List Int),IntKind.wrap .i64 (i11-1)) v16) [0,0] ⟨rfl,rfl,rfl,trivial⟩ rfl
    ·refine J5 rfl<|k4 (out0 (xs10,i11) v9) [0,0] ⟨rfl,rfl,rfl,trivial⟩ rfl
def M4.l0 (K:Nat) (pairs4:(List (Int×Int))):Nat→((List Int)×Bool×Int)→Option ((List Int)×Bool×Int)
 | 0,_=>none
 | m+1,(xs6,c7,t8)=>if t8<(pairs4.length:Int) then if 0≤t8 then (M2 K (⟨xs6,c7⟩:Pack_writer) ((rd pairs4 t8).1) ((rd pairs4 t8).2)).bind fun r12=>M4.l0 K pairs4 m (r12.out_,r12.bad,IntKind.wrap .i64 (t8+1)) else none else some (xs6,c7,t8)
def M4 (K:Nat) (w1:Pack_writer) (pairs4:(List (Int×Int))):Option Pack_writer:=(M4.l0 K pairs4 K (w1.out_,w1.bad,0)).bind fun (xs6,c7,t8)=>some (⟨xs6,c7⟩:Pack_writer)
theorem W6 (K:Nat) (w1:Pack_writer) (pairs4:(List (Int×Int))) (b2:Nat) (v3:Value):Hands Try.prog 20 [.lit (.pointer (some ⟨b2,0,none⟩)),.fsl cA2_Int_i64 pairs4] ([.box b2 [.sv v3,Ab w1.bad],.own 5 (cI .u8) v3 w1.out_]) (M4 K w1 pairs4) (fun (r:Pack_writer) (v:Value)=>.any) (fun (r:Pack_writer) (v:Value)=>[.box b2 [.sv v,Ab r.bad],.own 5 (cI .u8) v r.out_]):=by
 refine obj_of Try.func20 rfl Try.ntmps20 (le_ rfl) ?_
 refine Q0<|G0 rfl<|sQ (dMv rfl) rfl<|sQ (P6 Try.underlying84 rfl) rfl<|sQ (dMv rfl) rfl<|j0<|G6 (M4.l0 K pairs4) (fun ((xs6,c7,t8):((List Int)×Bool×Int)) (v5:Value)=>([(0,.lit (.pointer (some ⟨b2,0,none⟩))),(6,.fsl cA2_Int_i64 pairs4),(7,Ai .i64 (pairs4.length:Int)),(8,Ai .i64 t8)]:Fr)) (fun ((xs6,c7,t8):((List Int)×Bool×Int)) (v5:Value)=>([.box b2 [.sv v5,Ab c7],.own 5 (cI .u8) v5 xs6]:List Res)) (fun ((xs6,c7,t8):((List Int)×Bool×Int)) (v5:Value)=>([(0,.lit (.pointer (some ⟨b2,0,none⟩))),(6,.fsl cA2_Int_i64 pairs4),(7,Ai .i64 (pairs4.length:Int)),(8,Ai .i64 t8)]:Fr)) (fun ((xs6,c7,t8):((List Int)×Bool×Int)) (v5:Value)=>([.box b2 [.sv v5,Ab c7],.own 5 (cI .u8) v5 xs6]:List Res)) v3 (fun _=>rfl) [] ⟨rfl,rfl,rfl,rfl,trivial⟩ rfl ?_ ?_
 ·rintro ⟨xs6,c7,t8⟩ v5
  refine sPk [0,0] (H':=[.box b2 [.sv v5,Ab c7],.own 5 (cI .u8) v5 xs6]) rfl<|jc Try.func20 Try.results20 ⟨v5,rfl,rfl⟩
 ·rintro m ⟨xs6,c7,t8⟩ v5 again0 out0
  refine Q0<|G0 rfl<|sQ (dLt rfl rfl) rfl<|j0<|Q0<|P5 rfl (fun h9=>?_) (fun h9=>?_)
  ·refine M3<|Q0<|f7<|Q0<|G0 rfl<|t6 fun h10=>sQ (dIx Try.underlying84 z62 rfl rfl h10 h9) rfl<|sQ (G9 g62 z62 rfl (le_ rfl)) rfl<|V5 (az:=[Ai .i64 (0:Int),Ai .i64 (0:Int)]) al62 (fun _ _=>.cons rfl (.cons rfl .nil)) rfl fun b11=>V4 (j:=0) z62 rfl rfl rfl cAgg ((cA2_Int_i64).one _) rfl (le_ rfl)<|j0<|G0 rfl<|sQ (dMv rfl) rfl<|sQ (ge ia62_i64_0 rfl rfl) rfl<|sQ (Q5 (j:=0) g3 rfl rfl rfl) rfl<|sQ (ge ia62_i64_1 rfl rfl) rfl<|sQ (Q5 (j:=0) g3 rfl rfl rfl) rfl<|V1 fun r12 e13=>J2 [1,1] ent36 rfl (J8 K _ _ _ _ _) e13 rfl (.s rfl<|.s rfl<|.s rfl .nil) rfl fun v14=>j0<|P4<|G0 rfl<|sQ (Q7 rfl rfl) rfl<|sQ (dMv rfl) rfl<|j0<|k4 (again0 (r12.out_,r12.bad,IntKind.wrap .i64 (t8+1)) v14) [0,0] ⟨rfl,rfl,rfl,rfl,trivial⟩ rfl
  ·refine J5 rfl<|k4 (out0 (xs6,c7,t8) v5) [0,0] ⟨rfl,rfl,rfl,rfl,trivial⟩ rfl
def p8 (K:Nat) (x1:Node):Option Bool:=if x1.Kind=0 then some (decide (x1.Place=(⟨(0:Int),(0:Int),(0:Int)⟩:Place))) else if x1.Kind=1 then some (decide (x1.Name=0)) else some false
theorem V8 (K:Nat) (x1:Node):Pure Try.prog 37 [.fptr (cNode.e x1)] (p8 K x1) (fun r=>Ab r):=by
 refine spec_of' Try.func37 rfl Try.ntmps37 (le_ rfl) ?_
 refine Q0<|G0 rfl<|sQ (dAs rfl) rfl<|j0<|Q0<|Q0<|G0 rfl<|sQ (dMv rfl) rfl<|sQ (dNc ptF rfl) rfl<|sQ (dFA fa46_1 rfl) rfl<|sQ (dLd g3 rfl rfl) rfl<|sQ (dEq rfl rfl) rfl<|j0<|P5 rfl (fun h2=>?_) (fun h2=>?_)
 ·refine Q0<|G0 rfl<|sQ (dMv rfl) rfl<|sQ (dNc ptF rfl) rfl<|sQ (dFA fa46_3 rfl) rfl<|sQ (G9 g43 z43 rfl (le_ rfl)) rfl<|sQ (G5 (az:=[Ai .i64 (0:Int),Ai .i64 (0:Int),Ai .i64 (0:Int)]) Try.underlying43 zv43 pl43 (fun _ _=>.cons rfl (.cons rfl (.cons rfl .nil))) (.nil)) rfl<|sQ (eq43 (x:=x1.Place) (y:=(⟨(0:Int),(0:Int),(0:Int)⟩:Place)) rfl rfl) rfl<|sQ (dAs rfl) rfl<|j0<|Q2 [] Try.func37 Try.results37 (rT rfl) ⟨rfl,rfl⟩
 ·refine M3<|Q0<|G0 rfl<|sQ (dMv rfl) rfl<|sQ (dNc ptF rfl) rfl<|sQ (dFA fa46_1 rfl) rfl<|sQ (dLd g3 rfl rfl) rfl<|sQ (dEq rfl rfl) rfl<|sQ (dMv rfl) rfl<|Q4 (fun h3=>?_) (fun h3=>?_)
  ·refine sQg (j:=5) rfl rfl rfl (decide_eq_true h3) rfl (dMv rfl) rfl<|sQg (j:=5) rfl rfl rfl (decide_eq_true h3) rfl (dNc ptF rfl) rfl<|sQg (j:=5) rfl rfl rfl (decide_eq_true h3) rfl (dFA fa46_2 rfl) rfl<|sQg (j:=5) rfl rfl rfl (decide_eq_true h3) rfl (dLd g3 rfl rfl) rfl<|sQg (j:=5) rfl rfl rfl (decide_eq_true h3) rfl (dEq rfl rfl) rfl<|sQ (W1 rfl (decide_eq_true h3) rfl) rfl<|sQ (dAs rfl) rfl<|j0<|Q2 [] Try.func37 Try.results37 (rT rfl) ⟨rfl,rfl⟩
  ·refine sQu (j:=5) rfl rfl rfl (decide_eq_false h3) rfl rfl<|sQu (j:=5) rfl rfl rfl (decide_eq_false h3) rfl rfl<|sQu (j:=5) rfl rfl rfl (decide_eq_false h3) rfl rfl<|sQu (j:=5) rfl rfl rfl (decide_eq_false h3) rfl rfl<|sQu (j:=5) rfl rfl rfl (decide_eq_false h3) rfl rfl<|sQ (V0 rfl (decide_eq_false h3) rfl) rfl<|sQ (dAs rfl) rfl<|j0<|Q2 [] Try.func37 Try.results37 (rT rfl) ⟨rfl,rfl⟩
def Ja (K:Nat) (is1:Bool):Option Int:=if is1=true then some 1 else some 0
theorem ac (K:Nat) (is1:Bool):Pure Try.prog 38 [Ab is1] (Ja K is1) (fun r=>Ai .i64 r):=by
 refine spec_of' Try.func38 rfl Try.ntmps38 (le_ rfl) ?_
 refine Q0<|G0 rfl<|sQ (dAs rfl) rfl<|j0<|Q0<|Q0<|G0 rfl<|sQ (dMv rfl) rfl<|j0<|M6 rfl (fun h2=>?_) (fun h2=>?_)
 ·refine Q0<|G0 rfl<|sQ (dAs rfl) rfl<|j0<|Q2 [] Try.func38 Try.results38 (rT rfl) ⟨rfl,rfl⟩
 ·refine M3<|Q0<|G0 rfl<|sQ (dAs rfl) rfl<|j0<|Q2 [] Try.func38 Try.results38 (rT rfl) ⟨rfl,rfl⟩
def W2.l1 (K:Nat) (x4:Node) (t27:Int):Nat→((List Int)×Bool×Int)→Option ((List Int)×Bool×Int)
 | 0,_=>none
 | m+1,(xs35,c36,t37)=>if t37<(((rd x4.Picks t27).Kids).length:Int) then if 0≤t37 then (M2 K (⟨xs35,c36⟩:Pack_writer) (rd ((rd x4.Picks t27).Kids) t37) 4).bind fun r40=>W2.l1 K x4 t27 m (r40.out_,r40.bad,IntKind.wrap .i64 (t37+1)) else none else some (xs35,c36,t37)
def W2.l0 (K:Nat) (x4:Node):Nat→((List Int)×Bool×Int)→Option ((List Int)×Bool×Int)
 | 0,_=>none
 | m+1,(xs25,c26,t27)=>if t27<(x4.Picks.length:Int) then if 0≤t27 then (M4 K (⟨xs25,c26⟩:Pack_writer) ([(((rd x4.Picks t27).At,2):(Int×Int)),(((rd x4.Picks t27).Conj,1):(Int×Int)),(((((rd x4.Picks t27).Kids).length:Int),1):(Int×Int))]:List (Int×Int))).bind fun r31=>(W2.l1 K x4 t27 K (r31.out_,r31.bad,0)).bind fun (xs35,c36,t37)=>W2.l0 K x4 m (xs35,c36,IntKind.wrap .i64 (t27+1)) else none else some (xs25,c26,t27)
def W2 (K:Nat) (w1:Pack_writer) (x4:Node):Option Pack_writer:=(if w1.bad=true then some true else (p8 K x4).bind fun r8=>some (!r8)).bind fun c5=>(Ja K x4.Sign).bind fun r10=>(M4 K (⟨w1.out_,c5⟩:Pack_writer) ([((r10,1):(Int×Int)),((x4.Kind,1):(Int×Int)),((x4.Name,2):(Int×Int)),((x4.Place.Rule,2):(Int×Int)),((x4.Place.Conj,1):(Int×Int)),((x4.Place.Pos,1):(Int×Int))]:List (Int×Int))).bind fun r15=>(M4 K (⟨r15.out_,r15.bad⟩:Pack_writer) ([((x4.I,1):(Int×Int)),((x4.J,1):(Int×Int)),((x4.Rank,4):(Int×Int)),(((x4.Picks.length:Int),2):(Int×Int))]:List (Int×Int))).bind fun r21=>(W2.l0 K x4 K (r21.out_,r21.bad,0)).bind fun (xs25,c26,t27)=>some (⟨xs25,c26⟩:Pack_writer)
theorem ba (K:Nat) (w1:Pack_writer) (x4:Node) (b2:Nat) (v3:Value):Hands Try.prog 21 [.lit (.pointer (some ⟨b2,0,none⟩)),.fptr (cNode.e x4)] ([.box b2 [.sv v3,Ab w1.bad],.own 5 (cI .u8) v3 w1.out_]) (W2 K w1 x4) (fun (r:Pack_writer) (v:Value)=>.any) (fun (r:Pack_writer) (v:Value)=>[.box b2 [.sv v,Ab r.bad],.own 5 (cI .u8) v r.out_]):=by
 refine obj_of Try.func21 rfl Try.ntmps21 (le_ rfl) ?_
 refine Q0<|zb (fun (c5:Bool) (_:Unit)=>([(0,.lit (.pointer (some ⟨b2,0,none⟩))),(1,.fptr ((cNode.e x4)))]:Fr)) (fun (c5:Bool) (_:Unit)=>([.box b2 [.sv v3,Ab c5],.own 5 (cI .u8) v3 w1.out_]:List Res)) ?_ ?_
 ·rintro c5 _
  refine Q0<|P8 fun r10 e11=>G8 36 mixed rfl (by kernel_rfl) (by kernel_rfl) (by kernel_rfl) (.c (.r (dMv rfl)) rfl rfl<|.c (.r (dMv rfl)) rfl rfl<|.c (.r (dNc ptF rfl)) rfl rfl<|.c (.r (dFA fa46_0 rfl)) rfl rfl<|.c (.r (dLd g4 rfl rfl)) rfl rfl<|.c (.r (j4 ent38 (ac K _) e11 (.s rfl .nil))) rfl rfl<|.c (.r (t7 (az:=[Ai .i64 (0:Int),Ai .i64 (0:Int)]) Try.underlying62 z3 zv62 (fun _ _=>.cons rfl (.cons rfl .nil)) (.c rfl rfl (cOne (oLit rfl)) rfl rfl (.c rfl rfl (cOne (oLit rfl)) rfl rfl .nil)))) rfl rfl<|.c (.r (dMv rfl)) rfl rfl<|.c (.r (dNc ptF rfl)) rfl rfl<|.c (.r (dFA fa46_1 rfl)) rfl rfl<|.c (.r (dLd g3 rfl rfl)) rfl rfl<|.c (.r (t7 (az:=[Ai .i64 (0:Int),Ai .i64 (0:Int)]) Try.underlying62 z3 zv62 (fun _ _=>.cons rfl (.cons rfl .nil)) (.c rfl rfl (cOne (oLit rfl)) rfl rfl (.c rfl rfl (cOne (oLit rfl)) rfl rfl .nil)))) rfl rfl<|.c (.r (dMv rfl)) rfl rfl<|.c (.r (dNc ptF rfl)) rfl rfl<|.c (.r (dFA fa46_2 rfl)) rfl rfl<|.c (.r (dLd g3 rfl rfl)) rfl rfl<|.c (.r (t7 (az:=[Ai .i64 (0:Int),Ai .i64 (0:Int)]) Try.underlying62 z3 zv62 (fun _ _=>.cons rfl (.cons rfl .nil)) (.c rfl rfl (cOne (oLit rfl)) rfl rfl (.c rfl rfl (cOne (oLit rfl)) rfl rfl .nil)))) rfl rfl<|.c (.r (dMv rfl)) rfl rfl<|.c (.r (dNc ptF rfl)) rfl rfl<|.c (.r (dFA fa46_3 rfl)) rfl rfl<|.c (.r (dFA fa43_0 rfl)) rfl rfl<|.c (.r (dLd g3 rfl rfl)) rfl rfl<|.c (.r (t7 (az:=[Ai .i64 (0:Int),Ai .i64 (0:Int)]) Try.underlying62 z3 zv62 (fun _ _=>.cons rfl (.cons rfl .nil)) (.c rfl rfl (cOne (oLit rfl)) rfl rfl (.c rfl rfl (cOne (oLit rfl)) rfl rfl .nil)))) rfl rfl<|.c (.r (dMv rfl)) rfl rfl<|.c (.r (dNc ptF rfl)) rfl rfl<|.c (.r (dFA fa46_3 rfl)) rfl rfl<|.c (.r (dFA fa43_1 rfl)) rfl rfl<|.c (.r (dLd g3 rfl rfl)) rfl rfl<|.c (.r (t7 (az:=[Ai .i64 (0:Int),Ai .i64 (0:Int)]) Try.underlying62 z3 zv62 (fun _ _=>.cons rfl (.cons rfl .nil)) (.c rfl rfl (cOne (oLit rfl)) rfl rfl (.c rfl rfl (cOne (oLit rfl)) rfl rfl .nil)))) rfl rfl<|.c (.r (dMv rfl)) rfl rfl<|.c (.r (dNc ptF rfl)) rfl rfl<|.c (.r (dFA fa46_3 rfl)) rfl rfl<|.c (.r (dFA fa43_2 rfl)) rfl rfl<|.c (.r (dLd g3 rfl rfl)) rfl rfl<|.c (.r (t7 (az:=[Ai .i64 (0:Int),Ai .i64 (0:Int)]) Try.underlying62 z3 zv62 (fun _ _=>.cons rfl (.cons rfl .nil)) (.c rfl rfl (cOne (oLit rfl)) rfl rfl (.c rfl rfl (cOne (oLit rfl)) rfl rfl .nil)))) rfl rfl<|.c (.r (dBS (c:=cA2_Int_i64) (xs:=([((r10,1):(Int×Int)),((x4.Kind,1):(Int×Int)),((x4.Name,2):(Int×Int)),((x4.Place.Rule,2):(Int×Int)),((x4.Place.Conj,1):(Int×Int)),((x4.Place.Pos,1):(Int×Int))]:List (Int×Int))) Try.underlying84 z62 Mb (.c rfl cAgg (.c rfl cAgg (.c rfl cAgg (.c rfl cAgg (.c rfl cAgg (.c rfl cAgg .nil)))))) rfl)) rfl rfl .n) rfl<|V1 fun r15 e16=>J2 [0,0] ent20 rfl (W6 K _ _ _ _) e16 rfl (.s rfl<|.s rfl .nil) rfl fun v17=>j0<|Q0<|G8 23 mixed rfl (by kernel_rfl) (by kernel_rfl) (by kernel_rfl) (.c (.r (dMv rfl)) rfl rfl<|.c (.r (dMv rfl)) rfl rfl<|.c (.r (dNc ptF rfl)) rfl rfl<|.c (.r (dFA fa46_4 rfl)) rfl rfl<|.c (.r (dLd g3 rfl rfl)) rfl rfl<|.c (.r (t7 (az:=[Ai .i64 (0:Int),Ai .i64 (0:Int)]) Try.underlying62 z3 zv62 (fun _ _=>.cons rfl (.cons rfl .nil)) (.c rfl rfl (cOne (oLit rfl)) rfl rfl (.c rfl rfl (cOne (oLit rfl)) rfl rfl .nil)))) rfl rfl<|.c (.r (dMv rfl)) rfl rfl<|.c (.r (dNc ptF rfl)) rfl rfl<|.c (.r (dFA fa46_5 rfl)) rfl rfl<|.c (.r (dLd g3 rfl rfl)) rfl rfl<|.c (.r (t7 (az:=[Ai .i64 (0:Int),Ai .i64 (0:Int)]) Try.underlying62 z3 zv62 (fun _ _=>.cons rfl (.cons rfl .nil)) (.c rfl rfl (cOne (oLit rfl)) rfl rfl (.c rfl rfl (cOne (oLit rfl)) rfl rfl .nil)))) rfl rfl<|.c (.r (dMv rfl)) rfl rfl<|.c (.r (dNc ptF rfl)) rfl rfl<|.c (.r (dFA fa46_6 rfl)) rfl rfl<|.c (.r (dLd g3 rfl rfl)) rfl rfl<|.c (.r (t7 (az:=[Ai .i64 (0:Int),Ai .i64 (0:Int)]) Try.underlying62 z3 zv62 (fun _ _=>.cons rfl (.cons rfl .nil)) (.c rfl rfl (cOne (oLit rfl)) rfl rfl (.c rfl rfl (cOne (oLit rfl)) rfl rfl .nil)))) rfl rfl<|.c (.r (dMv rfl)) rfl rfl<|.c (.r (dNc ptF rfl)) rfl rfl<|.c (.r (dFA fa46_7 rfl)) rfl rfl<|.c (.r (dLd g44 rfl rfl)) rfl rfl<|.c (.r (P6 Try.underlying44 rfl)) rfl rfl<|.c (.r (t7 (az:=[Ai .i64 (0:Int),Ai .i64 (0:Int)]) Try.underlying62 z3 zv62 (fun _ _=>.cons rfl (.cons rfl .nil)) (.c rfl rfl (cOne (oLit rfl)) rfl rfl (.c rfl rfl (cOne (oLit rfl)) rfl rfl .nil)))) rfl rfl<|.c (.r (dBS (c:=cA2_Int_i64) (xs:=([((x4.I,1):(Int×Int)),((x4.J,1):(Int×Int)),((x4.Rank,4):(Int×Int)),(((x4.Picks.length:Int),2):(Int×Int))]:List (Int×Int))) Try.underlying84 z62 Mb (.c rfl cAgg (.c rfl cAgg (.c rfl cAgg (.c rfl cAgg .nil)))) rfl)) rfl rfl .n) rfl<|V1 fun r21 e22=>J2 [0,0] ent20 rfl (W6 K _ _ _ _) e22 rfl (.s rfl<|.s rfl .nil) rfl fun v23=>j0<|Q0<|G0 rfl<|sQ (dMv rfl) rfl<|sQ (dNc ptF rfl) rfl<|sQ (dFA fa46_7 rfl) rfl<|sQ (dLd g44 rfl rfl) rfl<|sQ (P6 Try.underlying44 rfl) rfl<|sQ (dMv rfl) rfl<|j0<|G6 (W2.l0 K x4) (fun ((xs25,c26,t27):((List Int)×Bool×Int)) (v24:Value)=>([(0,.lit (.pointer (some ⟨b2,0,none⟩))),(84,.fsl cPick x4.Picks),(85,Ai .i64 (x4.Picks.length:Int)),(86,Ai .i64 t27)]:Fr)) (fun ((xs25,c26,t27):((List Int)×Bool×Int)) (v24:Value)=>([.box b2 [.sv v24,Ab c26],.own 5 (cI .u8) v24 xs25]:List Res)) (fun ((xs25,c26,t27):((List Int)×Bool×Int)) (v24:Value)=>([(0,.lit (.pointer (some ⟨b2,0,none⟩))),(84,.fsl cPick x4.Picks),(85,Ai .i64 (x4.Picks.length:Int)),(86,Ai .i64 t27)]:Fr)) (fun ((xs25,c26,t27):((List Int)×Bool×Int)) (v24:Value)=>([.box b2 [.sv v24,Ab c26],.own 5 (cI .u8) v24 xs25]:List Res)) v23 (fun _=>rfl) [] ⟨rfl,rfl,rfl,rfl,trivial⟩ rfl ?_ ?_
  ·rintro ⟨xs25,c26,t27⟩ v24
   refine sPk [0,0] (H':=[.box b2 [.sv v24,Ab c26],.own 5 (cI .u8) v24 xs25]) rfl<|jc Try.func21 Try.results21 ⟨v24,rfl,rfl⟩
  ·rintro m ⟨xs25,c26,t27⟩ v24 again0 out0
   refine Q0<|G0 rfl<|sQ (dLt rfl rfl) rfl<|j0<|Q0<|P5 rfl (fun h28=>?_) (fun h28=>?_)
   ·refine M3<|Q0<|f7<|Q0<|G0 rfl<|t6 fun h29=>sQ (dIx Try.underlying44 z49 rfl rfl h29 h28) rfl<|sQ (G9 g49 z49 rfl (le_ rfl)) rfl<|V5 (az:=[Ai .i64 (0:Int),Ai .i64 (0:Int),.lit (.slice none 0 0)]) al49 (fun _ _=>.cons rfl (.cons rfl (.cons rfl .nil))) rfl fun b30=>V4 (j:=0) z49 rfl rfl rfl cAgg ((cPick).one _) rfl (le_ rfl)<|j0<|Q0<|G0 rfl<|sQ (dMv rfl) rfl<|sQ (P2 fa49_0 rfl) rfl<|sQ (Q5 (j:=0) g3 rfl rfl rfl) rfl<|sQ (t7 (az:=[Ai .i64 (0:Int),Ai .i64 (0:Int)]) Try.underlying62 z3 zv62 (fun _ _=>.cons rfl (.cons rfl .nil)) (.c rfl rfl (cOne (oLit rfl)) rfl rfl (.c rfl rfl (cOne (oLit rfl)) rfl rfl .nil))) rfl<|sQ (P2 fa49_1 rfl) rfl<|sQ (Q5 (j:=0) g3 rfl rfl rfl) rfl<|sQ (t7 (az:=[Ai .i64 (0:Int),Ai .i64 (0:Int)]) Try.underlying62 z3 zv62 (fun _ _=>.cons rfl (.cons rfl .nil)) (.c rfl rfl (cOne (oLit rfl)) rfl rfl (.c rfl rfl (cOne (oLit rfl)) rfl rfl .nil))) rfl<|sQ (P2 fa49_2 rfl) rfl<|sQ (Q5 (j:=0) g47 rfl rfl rfl) rfl<|sQ (P6 Try.underlying47 rfl) rfl<|sQ (t7 (az:=[Ai .i64 (0:Int),Ai .i64 (0:Int)]) Try.underlying62 z3 zv62 (fun _ _=>.cons rfl (.cons rfl .nil)) (.c rfl rfl (cOne (oLit rfl)) rfl rfl (.c rfl rfl (cOne (oLit rfl)) rfl rfl .nil))) rfl<|sQ (dBS (c:=cA2_Int_i64) (xs:=([(((rd x4.Picks t27).At,2):(Int×Int)),(((rd x4.Picks t27).Conj,1):(Int×Int)),(((((rd x4.Picks t27).Kids).length:Int),1):(Int×Int))]:List (Int×Int))) Try.underlying84 z62 Mb (.c rfl cAgg (.c rfl cAgg (.c rfl cAgg .nil))) rfl) rfl<|V1 fun r31 e32=>J2 [1,1] ent20 rfl (W6 K _ _ _ _) e32 rfl (.s rfl<|.s rfl .nil) rfl fun v33=>j0<|Q0<|G0 rfl<|sQ (P2 fa49_2 rfl) rfl<|sQ (Q5 (j:=2) g47 rfl rfl rfl) rfl<|sQ (P6 Try.underlying47 rfl) rfl<|sQ (dMv rfl) rfl<|j0<|G6 (W2.l1 K x4 t27) (fun ((xs35,c36,t37):((List Int)×Bool×Int)) (v34:Value)=>([(0,.lit (.pointer (some ⟨b2,0,none⟩))),(84,.fsl cPick x4.Picks),(85,Ai .i64 (x4.Picks.length:Int)),(86,Ai .i64 t27),(104,.fsl (cI .i64) ((rd x4.Picks t27).Kids)),(105,Ai .i64 (((rd x4.Picks t27).Kids).length:Int)),(106,Ai .i64 t37)]:Fr)) (fun ((xs35,c36,t37):((List Int)×Bool×Int)) (v34:Value)=>([.box b2 [.sv v34,Ab c36],.own 5 (cI .u8) v34 xs35]:List Res)) (fun ((xs35,c36,t37):((List Int)×Bool×Int)) (v34:Value)=>([(0,.lit (.pointer (some ⟨b2,0,none⟩))),(84,.fsl cPick x4.Picks),(85,Ai .i64 (x4.Picks.length:Int)),(86,Ai .i64 t27),(104,.fsl (cI .i64) ((rd x4.Picks t27).Kids)),(105,Ai .i64 (((rd x4.Picks t27).Kids).length:Int)),(106,Ai .i64 t37)]:Fr)) (fun ((xs35,c36,t37):((List Int)×Bool×Int)) (v34:Value)=>([.box b2 [.sv v34,Ab c36],.own 5 (cI .u8) v34 xs35]:List Res)) v33 (fun _=>rfl) [2] ⟨rfl,rfl,rfl,rfl,rfl,rfl,rfl,trivial⟩ rfl ?_ ?_
    ·rintro ⟨xs35,c36,t37⟩ v34
     refine P4<|G0 rfl<|sQ (Q7 rfl rfl) rfl<|sQ (dMv rfl) rfl<|j0<|k4 (again0 (xs35,c36,IntKind.wrap .i64 (t27+1)) v34) [0,0] ⟨rfl,rfl,rfl,rfl,trivial⟩ rfl
    ·rintro m ⟨xs35,c36,t37⟩ v34 again1 out1
     refine Q0<|G0 rfl<|sQ (dLt rfl rfl) rfl<|j0<|Q0<|P5 rfl (fun h38=>?_) (fun h38=>?_)
     ·refine M3<|Q0<|f7<|Q0<|G0 rfl<|t6 fun h39=>sQ (dIx Try.underlying47 z3 rfl rfl h39 h38) rfl<|sQ (dLd g3 rfl rfl) rfl<|sQ (dAs rfl) rfl<|j0<|G0 rfl<|sQ (dMv rfl) rfl<|sQ (dMv rfl) rfl<|V1 fun r40 e41=>J2 [0,0] ent36 rfl (J8 K _ _ _ _ _) e41 rfl (.s rfl<|.s rfl<|.s rfl .nil) rfl fun v42=>j0<|P4<|G0 rfl<|sQ (Q7 rfl rfl) rfl<|sQ (dMv rfl) rfl<|j0<|k4 (again1 (r40.out_,r40.bad,IntKind.wrap .i64 (t37+1)) v42) [0,0] ⟨rfl,rfl,rfl,rfl,rfl,rfl,rfl,trivial⟩ rfl
     ·refine J5 rfl<|k4 (out1 (xs35,c36,t37) v34) [0,0] ⟨rfl,rfl,rfl,rfl,rfl,rfl,rfl,trivial⟩ rfl
   ·refine J5 rfl<|k4 (out0 (xs25,c26,t27) v24) [0,0] ⟨rfl,rfl,rfl,rfl,trivial⟩ rfl
 ·intro join5
  refine G0 rfl<|sQ (dMv rfl) rfl<|sQ (dMv rfl) rfl<|sQ (dNc ptLit rfl) rfl<|sQ (P2 fa60_1 rfl) rfl<|sQ (Q5 (j:=0) g4 rfl rfl rfl) rfl<|sQ (dMv rfl) rfl<|Q4 (fun h7=>?_) (fun h7=>?_)
  ·refine sQu (j:=5) rfl rfl rfl h7 rfl rfl<|sQu (j:=5) rfl rfl rfl h7 rfl rfl<|sQu (j:=5) rfl rfl rfl h7 rfl rfl<|sQ (W1 rfl h7 rfl) rfl<|sQ (dNc ptLit rfl) rfl<|sQ (P2 fa60_1 rfl) rfl<|V4 (j:=0) z4 rfl rfl rfl (cOne (oLit rfl)) ⟨(oLit rfl),trivial⟩ rfl (le_ rfl)<|j0<|k4 (join5 true ()) [0,0] ⟨rfl,rfl,trivial⟩ rfl
  ·refine sQg (j:=5) rfl rfl rfl (eq_false_of_ne_true h7) rfl (dMv rfl) rfl<|V1 fun r8 e9=>sQg (j:=5) rfl rfl rfl (eq_false_of_ne_true h7) rfl (j4 ent37 (V8 K _) e9 (.s rfl .nil)) rfl<|sQg (j:=5) rfl rfl rfl (eq_false_of_ne_true h7) rfl (L8 rfl) rfl<|sQ (V0 rfl (eq_false_of_ne_true h7) rfl) rfl<|sQ (dNc ptLit rfl) rfl<|sQ (P2 fa60_1 rfl) rfl<|V4 (j:=0) z4 rfl rfl rfl (cOne (oLit rfl)) ⟨(oLit rfl),trivial⟩ rfl (le_ rfl)<|j0<|k4 (join5 (!r8) ()) [0,0] ⟨rfl,rfl,trivial⟩ rfl
def j6.l0 (K:Nat) (c1:Cert):Nat→((List Int)×Bool×Int)→Option ((List Int)×Bool×Int)
 | 0,_=>none
 | m+1,(xs8,c9,t10)=>if t10<(c1.Nodes.length:Int) then if 0≤t10 then (W2 K (⟨xs8,c9⟩:Pack_writer) (rd c1.Nodes t10)).bind fun r13=>if 1048576<(r13.out_.length:Int) then if 1048577≤(r13.out_.length:Int) then j6.l0 K c1 m (r13.out_.take (1048577:Int).toNat,r13.bad,IntKind.wrap .i64 (t10+1)) else none else j6.l0 K c1 m (r13.out_,r13.bad,IntKind.wrap .i64 (t10+1)) else none else some (xs8,c9,t10)
def j6 (K:Nat) (c1:Cert):Option (ByteArray×Int):=(M4 K (⟨([84,67]:List Int),false⟩:Pack_writer) ([((c1.Root,4):(Int×Int)),(((if 65536<(c1.Nodes.length:Int) then 65536 else (c1.Nodes.length:Int)),4):(Int×Int))]:List (Int×Int))).bind fun r4=>(j6.l0 K c1 K (r4.out_,r4.bad,0)).bind fun (xs8,c9,t10)=>if c9=true then some ((⟨#[]⟩:ByteArray),1800) else if 65536<(c1.Nodes.length:Int) then some ((⟨#[]⟩:ByteArray),1801) else if 1048576<(xs8.length:Int) then some ((⟨#[]⟩:ByteArray),1801) else some (strL xs8,0)
theorem qa (K:Nat) (c1:Cert):Pure Try.prog 10 [.agg (cCert.e c1)] (j6 K c1) (fun r=>.tup [.lit (.string r.1),Ai .i64 r.2]):=by
 refine spec_of' Try.func10 rfl Try.ntmps10 (le_ rfl) ?_
 refine Q0<|G0 rfl<|sQ (ja (az:=cCert.e c1) rfl cAgg) rfl<|sQ (dAs rfl) rfl<|sQ (dAs rfl) rfl<|j0<|Q0<|G0 rfl<|sBS (c:=(cI .u8)) (xs:=([84,67]:List Int)) Try.underlying56 z5 jb (.c rfl (cOne (oLit rfl)) (.c rfl (cOne (oLit rfl)) .nil)) rfl rfl fun v2=>Vd (j:=0) Try.underlying56 Try.underlying5 rfl rfl (by decide) rfl<|sQ (G5 (az:=[.lit (.slice none 0 0),Ab false]) Try.underlying60 zv60 pl60 (fun _ _=>.cons rfl (.cons rfl .nil)) (.c rfl rfl (cOne oSv) rfl rfl .nil)) rfl<|Mc rfl cAgg rfl fun b3=>sQ (dAs rfl) rfl<|j0<|Q0<|G0 rfl<|sQ (dMv rfl) rfl<|sQ (dFA fa24_0 rfl) rfl<|sQ (dLd g3 rfl rfl) rfl<|sQ (t7 (az:=[Ai .i64 (0:Int),Ai .i64 (0:Int)]) Try.underlying62 z3 zv62 (fun _ _=>.cons rfl (.cons rfl .nil)) (.c rfl rfl (cOne (oLit rfl)) rfl rfl (.c rfl rfl (cOne (oLit rfl)) rfl rfl .nil))) rfl<|sQ (dFA fa24_1 rfl) rfl<|sQ (dLd g22 rfl rfl) rfl<|sQ (P6 Try.underlying22 rfl) rfl<|sQ (dMin rfl rfl) rfl<|sQ (t7 (az:=[Ai .i64 (0:Int),Ai .i64 (0:Int)]) Try.underlying62 z3 zv62 (fun _ _=>.cons rfl (.cons rfl .nil)) (.c rfl rfl (cOne (oLit rfl)) rfl rfl (.c rfl rfl (cOne (oLit rfl)) rfl rfl .nil))) rfl<|sQ (dBS (c:=cA2_Int_i64) (xs:=([((c1.Root,4):(Int×Int)),(((if 65536<(c1.Nodes.length:Int) then 65536 else (c1.Nodes.length:Int)),4):(Int×Int))]:List (Int×Int))) Try.underlying84 z62 Mb (.c rfl cAgg (.c rfl cAgg .nil)) rfl) rfl<|V1 fun r4 e5=>J2 [0,0] ent20 rfl (W6 K _ _ _ _) e5 rfl (.s rfl<|.s rfl .nil) rfl fun v6=>j0<|Q0<|Q0<|G0 rfl<|sQ (dFA fa24_1 rfl) rfl<|sQ (dLd g22 rfl rfl) rfl<|sQ (P6 Try.underlying22 rfl) rfl<|sQ (dMv rfl) rfl<|j0<|G6 (j6.l0 K c1) (fun ((xs8,c9,t10):((List Int)×Bool×Int)) (v7:Value)=>([(1,.fptr ((cCert.e c1))),(4,.lit (.pointer (some ⟨b3,0,none⟩))),(23,Ai .i64 (c1.Nodes.length:Int)),(24,Ai .i64 t10)]:Fr)) (fun ((xs8,c9,t10):((List Int)×Bool×Int)) (v7:Value)=>([.box b3 [.sv v7,Ab c9],.own 5 (cI .u8) v7 xs8]:List Res)) (fun ((xs8,c9,t10):((List Int)×Bool×Int)) (v7:Value)=>([(1,.fptr ((cCert.e c1))),(4,.lit (.pointer (some ⟨b3,0,none⟩))),(23,Ai .i64 (c1.Nodes.length:Int)),(24,Ai .i64 t10)]:Fr)) (fun ((xs8,c9,t10):((List Int)×Bool×Int)) (v7:Value)=>([.box b3 [.sv v7,Ab c9],.own 5 (cI .u8) v7 xs8]:List Res)) v6 (fun _=>rfl) [] ⟨rfl,rfl,rfl,rfl,trivial⟩ rfl ?_ ?_
 ·rintro ⟨xs8,c9,t10⟩ v7
  refine Q0<|f7<|Q0<|G0 rfl<|sQ (dMv rfl) rfl<|sQ (dNc ptLit rfl) rfl<|sQ (P2 fa60_1 rfl) rfl<|sQ (Q5 (j:=0) g4 rfl rfl rfl) rfl<|sQ (dAs rfl) rfl<|j0<|M6 rfl (fun h19=>?_) (fun h19=>?_)
  ·refine Q0<|G0 rfl<|sQ (dAs rfl) rfl<|sQ (dAs rfl) rfl<|j0<|k7 [1,0] Try.func10 Try.results10 (rT rfl) (rT rfl) ⟨rfl,rfl⟩
  ·refine Q0<|G0 rfl<|sQ (dFA fa24_1 rfl) rfl<|sQ (dLd g22 rfl rfl) rfl<|sQ (P6 Try.underlying22 rfl) rfl<|sQ (dGt rfl rfl) rfl<|sQ (dMv rfl) rfl<|Q4 (fun h20=>?_) (fun h20=>?_)
   ·refine sQu (j:=4) rfl rfl rfl (decide_eq_true h20) rfl rfl<|sQu (j:=4) rfl rfl rfl (decide_eq_true h20) rfl rfl<|sQu (j:=4) rfl rfl rfl (decide_eq_true h20) rfl rfl<|sQu (j:=4) rfl rfl rfl (decide_eq_true h20) rfl rfl<|sQu (j:=4) rfl rfl rfl (decide_eq_true h20) rfl rfl<|sQu (j:=4) rfl rfl rfl (decide_eq_true h20) rfl rfl<|sQ (W1 rfl (decide_eq_true h20) rfl) rfl<|sQ (dAs rfl) rfl<|j0<|L6 rfl rfl<|Q0<|G0 rfl<|sQ (dAs rfl) rfl<|sQ (dAs rfl) rfl<|j0<|k7 [1,0] Try.func10 Try.results10 (rT rfl) (rT rfl) ⟨rfl,rfl⟩
   ·refine sQg (j:=4) rfl rfl rfl (decide_eq_false h20) rfl (dMv rfl) rfl<|sQg (j:=4) rfl rfl rfl (decide_eq_false h20) rfl (dNc ptLit rfl) rfl<|sQg (j:=4) rfl rfl rfl (decide_eq_false h20) rfl (P2 fa60_0 rfl) rfl<|sQg (j:=4) rfl rfl rfl (decide_eq_false h20) rfl (Q5 (j:=0) g56 rfl rfl rfl) rfl<|sQg (j:=4) rfl rfl rfl (decide_eq_false h20) rfl (wd (j:=1) Try.underlying56 rfl rfl) rfl<|sQg (j:=4) rfl rfl rfl (decide_eq_false h20) rfl (dGt rfl rfl) rfl<|sQ (V0 rfl (decide_eq_false h20) rfl) rfl<|sQ (dAs rfl) rfl<|j0<|P5 rfl (fun h21=>?_) (fun h21=>?_)
    ·refine Q0<|G0 rfl<|sQ (dAs rfl) rfl<|sQ (dAs rfl) rfl<|j0<|k7 [1,0] Try.func10 Try.results10 (rT rfl) (rT rfl) ⟨rfl,rfl⟩
    ·refine M3<|P4<|Q0<|G0 rfl<|sQ (dMv rfl) rfl<|sQ (dNc ptLit rfl) rfl<|sQ (P2 fa60_0 rfl) rfl<|sQ (Q5 (j:=0) g56 rfl rfl rfl) rfl<|gc 1 rfl<|tc 69 1 rfl rfl<|sQ (Jd Try.underlying56 Try.underlying5 Try.underlying9 rfl) rfl<|sQ (dAs rfl) rfl<|sQ (dAs rfl) rfl<|j0<|k7 [1,0] Try.func10 Try.results10 (rT rfl) (rT rfl) ⟨rfl,rfl⟩
 ·rintro m ⟨xs8,c9,t10⟩ v7 again0 out0
  refine Q0<|G0 rfl<|sQ (dLt rfl rfl) rfl<|j0<|Q0<|P5 rfl (fun h11=>?_) (fun h11=>?_)
  ·refine M3<|Q0<|f7<|Q0<|G0 rfl<|sQ (dMv rfl) rfl<|sQ (dAs rfl) rfl<|j0<|Q0<|G0 rfl<|sQ (dMv rfl) rfl<|sQ (dFA fa24_1 rfl) rfl<|sQ (dLd g22 rfl rfl) rfl<|sQ (dMv rfl) rfl<|t6 fun h12=>sQ (dIx Try.underlying22 z46 rfl rfl h12 h11) rfl<|V1 fun r13 e14=>J2 [0,0] ent21 rfl (ba K _ _ _ _) e14 rfl (.s rfl<|.s rfl .nil) rfl fun v15=>j0<|Q0<|G0 rfl<|sQ (dMv rfl) rfl<|sQ (dNc ptLit rfl) rfl<|sQ (P2 fa60_0 rfl) rfl<|sQ (Q5 (j:=0) g56 rfl rfl rfl) rfl<|sQ (wd (j:=1) Try.underlying56 rfl rfl) rfl<|sQ (dGt rfl rfl) rfl<|j0<|P5 rfl (fun h16=>?_) (fun h16=>?_)
   ·refine G0 rfl<|sQ (dMv rfl) rfl<|sQ (dMv rfl) rfl<|sQ (dNc ptLit rfl) rfl<|sQ (P2 fa60_0 rfl) rfl<|sQ (Q5 (j:=0) g56 rfl rfl rfl) rfl<|t6 fun h17=>sCut (j:=1) Try.underlying56 z5 rfl rfl rfl (by decide) h17 rfl fun v18=>sQ (dNc ptLit rfl) rfl<|sQ (P2 fa60_0 rfl) rfl<|V4 (j:=0) z56 rfl rfl rfl (cOne oSv) ⟨oSv,trivial⟩ rfl (le_ rfl)<|j0<|P4<|G0 rfl<|sQ (Q7 rfl rfl) rfl<|sQ (dMv rfl) rfl<|j0<|k4 (again0 (r13.out_.take (1048577:Int).toNat,r13.bad,IntKind.wrap .i64 (t10+1)) v18) [0,0] ⟨rfl,rfl,rfl,rfl,trivial⟩ rfl
   ·refine M3<|P4<|G0 rfl<|sQ (Q7 rfl rfl) rfl<|sQ (dMv rfl) rfl<|j0<|k4 (again0 (r13.out_,r13.bad,IntKind.wrap .i64 (t10+1)) v15) [0,0] ⟨rfl,rfl,rfl,rfl,trivial⟩ rfl
  ·refine J5 rfl<|k4 (out0 (xs8,c9,t10) v7) [0,0] ⟨rfl,rfl,rfl,rfl,trivial⟩ rfl
def internal_stringslite_HasPrefix (K:Nat) (s1:ByteArray) (prefix2:ByteArray):Option Bool:=if (prefix2.size:Int)≤(s1.size:Int) then some (decide ((sls s1 0 (prefix2.size:Int))=prefix2)) else some false
theorem internal_stringslite_HasPrefix_ok (K:Nat) (s1:ByteArray) (prefix2:ByteArray):Pure Try.prog 46 [.lit (.string s1),.lit (.string prefix2)] (internal_stringslite_HasPrefix K s1 prefix2) (fun r=>Ab r):=by
 refine spec_of' Try.func46 rfl Try.ntmps46 (le_ rfl) ?_
 refine Q0<|G0 rfl<|sQ (dAs rfl) rfl<|j0<|Q0<|G0 rfl<|sQ (dMv rfl) rfl<|sQ (J9 Try.underlying9 rfl) rfl<|sQ (dMv rfl) rfl<|sQ (J9 Try.underlying9 rfl) rfl<|sQ (dGe rfl rfl) rfl<|sQ (dMv rfl) rfl<|Q4 (fun h3=>?_) (fun h3=>?_)
 ·refine sQg (j:=5) rfl rfl rfl (decide_eq_true h3) rfl (dMv rfl) rfl<|sQg (j:=5) rfl rfl rfl (decide_eq_true h3) rfl (dMv rfl) rfl<|sQg (j:=5) rfl rfl rfl (decide_eq_true h3) rfl (J9 Try.underlying9 rfl) rfl<|sQg (j:=5) rfl rfl rfl (decide_eq_true h3) rfl (Vc Try.underlying9 rfl rfl (Int.natCast_nonneg _) h3) rfl<|sQg (j:=5) rfl rfl rfl (decide_eq_true h3) rfl (dMv rfl) rfl<|sQg (j:=5) rfl rfl rfl (decide_eq_true h3) rfl (ke rfl rfl) rfl<|sQ (W1 rfl (decide_eq_true h3) rfl) rfl<|sQ (dAs rfl) rfl<|j0<|Q2 [] Try.func46 Try.results46 (rT rfl) ⟨rfl,rfl⟩
 ·refine sQu (j:=5) rfl rfl rfl (decide_eq_false h3) rfl rfl<|sQu (j:=5) rfl rfl rfl (decide_eq_false h3) rfl rfl<|sQu (j:=5) rfl rfl rfl (decide_eq_false h3) rfl rfl<|sQu (j:=5) rfl rfl rfl (decide_eq_false h3) rfl rfl<|sQu (j:=5) rfl rfl rfl (decide_eq_false h3) rfl rfl<|sQu (j:=5) rfl rfl rfl (decide_eq_false h3) rfl rfl<|sQ (V0 rfl (decide_eq_false h3) rfl) rfl<|sQ (dAs rfl) rfl<|j0<|Q2 [] Try.func46 Try.results46 (rT rfl) ⟨rfl,rfl⟩
def internal_stringslite_CutPrefix (K:Nat) (s1:ByteArray) (prefix2:ByteArray):Option (ByteArray×Bool):=(internal_stringslite_HasPrefix K s1 prefix2).bind fun r3=>if (!r3)=true then some (s1,false) else if (prefix2.size:Int)≤(s1.size:Int) then some (sls s1 (prefix2.size:Int) (s1.size:Int),true) else none
theorem internal_stringslite_CutPrefix_ok (K:Nat) (s1:ByteArray) (prefix2:ByteArray):Pure Try.prog 40 [.lit (.string s1),.lit (.string prefix2)] (internal_stringslite_CutPrefix K s1 prefix2) (fun r=>.tup [.lit (.string r.1),Ab r.2]):=by
 refine spec_of' Try.func40 rfl Try.ntmps40 (le_ rfl) ?_
 refine Q0<|G0 rfl<|sQ (dAs rfl) rfl<|sQ (dAs rfl) rfl<|j0<|Q0<|Q0<|G0 rfl<|sQ (dMv rfl) rfl<|sQ (dMv rfl) rfl<|V1 fun r3 e4=>sQ (j4 ent46 (internal_stringslite_HasPrefix_ok K _ _) e4 (.s rfl<|.s rfl .nil)) rfl<|sQ (L8 rfl) rfl<|j0<|M6 rfl (fun h5=>?_) (fun h5=>?_)
 ·refine Q0<|G0 rfl<|sQ (dMv rfl) rfl<|sQ (dAs rfl) rfl<|sQ (dAs rfl) rfl<|j0<|k7 [] Try.func40 Try.results40 (rT rfl) (rT rfl) ⟨rfl,rfl⟩
 ·refine M3<|Q0<|G0 rfl<|sQ (dMv rfl) rfl<|sQ (dMv rfl) rfl<|sQ (J9 Try.underlying9 rfl) rfl<|t6 fun h6=>sQ (vd Try.underlying9 rfl rfl (Int.natCast_nonneg _) h6) rfl<|sQ (dAs rfl) rfl<|sQ (dAs rfl) rfl<|j0<|k7 [] Try.func40 Try.results40 (rT rfl) (rT rfl) ⟨rfl,rfl⟩
def strings_CutPrefix (K:Nat) (s1:ByteArray) (prefix2:ByteArray):Option (ByteArray×Bool):=(internal_stringslite_CutPrefix K s1 prefix2).bind fun r3=>some (r3.1,r3.2)
theorem strings_CutPrefix_ok (K:Nat) (s1:ByteArray) (prefix2:ByteArray):Pure Try.prog 27 [.lit (.string s1),.lit (.string prefix2)] (strings_CutPrefix K s1 prefix2) (fun r=>.tup [.lit (.string r.1),Ab r.2]):=by
 refine spec_of' Try.func27 rfl Try.ntmps27 (le_ rfl) ?_
 refine Q0<|G0 rfl<|sQ (dAs rfl) rfl<|sQ (dAs rfl) rfl<|j0<|Q0<|G0 rfl<|sQ (dMv rfl) rfl<|sQ (dMv rfl) rfl<|V1 fun r3 e4=>sQ (j4 ent40 (internal_stringslite_CutPrefix_ok K _ _) e4 (.s rfl<|.s rfl .nil)) rfl<|sQ (dX rfl rfl) rfl<|sQ (dX rfl rfl) rfl<|sQ (dAs rfl) rfl<|sQ (dAs rfl) rfl<|j0<|k7 [] Try.func27 Try.results27 (rT rfl) (rT rfl) ⟨rfl,rfl⟩
def M0.l0 (K:Nat) (r1:Pack_reader) (size3:Int):Nat→(Int×Int)→Option (Int×Int)
 | 0,_=>none
 | m+1,(x8,t9)=>if t9<size3 then if 0≤t9 then if t9<(r1.s.size:Int) then M0.l0 K r1 size3 m (ior .i64 (ishl .i64 x8 8) (IntKind.wrap .i64 (bt r1.s t9)),IntKind.wrap .i64 (t9+1)) else none else none else some (x8,t9)
def M0 (K:Nat) (r1:Pack_reader) (size3:Int):Option (Int×Pack_reader):=(if r1.bad=true then some true else some (decide ((r1.s.size:Int)<size3))).bind fun c4=>if c4=true then some (0,(⟨r1.s,c4⟩:Pack_reader)) else (M0.l0 K r1 size3 K (0,0)).bind fun (x8,t9)=>if 0≤size3 then if size3≤(r1.s.size:Int) then some (x8,(⟨sls r1.s size3 (r1.s.size:Int),c4⟩:Pack_reader)) else none else none
theorem W0 (K:Nat) (r1:Pack_reader) (size3:Int) (b2:Nat):Hands Try.prog 28 [.lit (.pointer (some ⟨b2,0,none⟩)),Ai .i64 size3] ([.box b2 [.lit (.string r1.s),Ab r1.bad]]) (M0 K r1 size3) (fun (r:(Int×Pack_reader)) (_:Unit)=>Ai .i64 r.1) (fun (r:(Int×Pack_reader)) (_:Unit)=>[.box b2 [.lit (.string r.2.s),Ab r.2.bad]]):=by
 refine obj_of Try.func28 rfl Try.ntmps28 (le_ rfl) ?_
 refine Q0<|G0 rfl<|sQ (dAs rfl) rfl<|j0<|Q0<|Q0<|zb (fun (c4:Bool) (_:Unit)=>([(0,.lit (.pointer (some ⟨b2,0,none⟩))),(1,Ai .i64 size3)]:Fr)) (fun (c4:Bool) (_:Unit)=>([.box b2 [.lit (.string r1.s),Ab c4]]:List Res)) ?_ ?_
 ·rintro c4 _
  refine Q0<|G0 rfl<|sQ (dMv rfl) rfl<|sQ (dNc ptLit rfl) rfl<|sQ (P2 fa72_1 rfl) rfl<|sQ (Q5 (j:=0) g4 rfl rfl rfl) rfl<|j0<|M6 rfl (fun h7=>?_) (fun h7=>?_)
  ·refine Q0<|G0 rfl<|sQ (dAs rfl) rfl<|j0<|sPk [0] (H':=[.box b2 [.lit (.string r1.s),Ab c4]]) rfl<|Q2 [] Try.func28 Try.results28 (rT rfl) ⟨(),rfl,rfl⟩
  ·refine M3<|Q0<|G0 rfl<|sQ (dAs rfl) rfl<|j0<|Q0<|Q0<|G0 rfl<|sQ (dMv rfl) rfl<|sQ (dMv rfl) rfl<|j0<|G6 (M0.l0 K r1 size3) (fun ((x8,t9):(Int×Int)) (_:Unit)=>([(0,.lit (.pointer (some ⟨b2,0,none⟩))),(1,Ai .i64 size3),(5,Ai .i64 x8),(27,Ai .i64 size3),(28,Ai .i64 t9)]:Fr)) (fun ((x8,t9):(Int×Int)) (_:Unit)=>([.box b2 [.lit (.string r1.s),Ab c4]]:List Res)) (fun ((x8,t9):(Int×Int)) (_:Unit)=>([(0,.lit (.pointer (some ⟨b2,0,none⟩))),(1,Ai .i64 size3),(5,Ai .i64 x8),(27,Ai .i64 size3),(28,Ai .i64 t9)]:Fr)) (fun ((x8,t9):(Int×Int)) (_:Unit)=>([.box b2 [.lit (.string r1.s),Ab c4]]:List Res)) () (fun _=>rfl) [] ⟨rfl,rfl,rfl,rfl,rfl,trivial⟩ rfl ?_ ?_
   ·rintro ⟨x8,t9⟩ _
    refine Q0<|G0 rfl<|sQ (dMv rfl) rfl<|sQ (dMv rfl) rfl<|sQ (dNc ptLit rfl) rfl<|sQ (P2 fa72_0 rfl) rfl<|sQ (Q5 (j:=0) g9 rfl rfl rfl) rfl<|sQ (dMv rfl) rfl<|t6 fun h13=>t6 fun h14=>sQ (vd Try.underlying9 rfl rfl h13 h14) rfl<|sQ (dNc ptLit rfl) rfl<|sQ (P2 fa72_0 rfl) rfl<|V4 (j:=0) z9 rfl rfl rfl (cOne (oLit rfl)) ⟨(oLit rfl),trivial⟩ rfl (le_ rfl)<|j0<|Q0<|G0 rfl<|sQ (dMv rfl) rfl<|sQ (dAs rfl) rfl<|j0<|sPk [0] (H':=[.box b2 [.lit (.string (sls r1.s size3 (r1.s.size:Int))),Ab c4]]) rfl<|Q2 [] Try.func28 Try.results28 (rT rfl) ⟨(),rfl,rfl⟩
   ·rintro m ⟨x8,t9⟩ _ again0 out0
    refine Q0<|G0 rfl<|sQ (dLt rfl rfl) rfl<|j0<|Q0<|P5 rfl (fun h10=>?_) (fun h10=>?_)
    ·refine M3<|Q0<|f7<|Q0<|G0 rfl<|sQ (dMv rfl) rfl<|sQ (dAs rfl) rfl<|j0<|G0 rfl<|sQ (dMv rfl) rfl<|sQ (Gd rfl rfl (by decide)) rfl<|sQ (dMv rfl) rfl<|sQ (dNc ptLit rfl) rfl<|sQ (P2 fa72_0 rfl) rfl<|sQ (Q5 (j:=0) g9 rfl rfl rfl) rfl<|sQ (dMv rfl) rfl<|t6 fun h11=>t6 fun h12=>sQ (pe Try.underlying9 rfl rfl h11 h12) rfl<|sQ (bc Try.underlying5 Try.underlying3 rfl) rfl<|sQ (dOr rfl rfl) rfl<|sQ (dAs rfl) rfl<|j0<|P4<|G0 rfl<|sQ (Q7 rfl rfl) rfl<|sQ (dMv rfl) rfl<|j0<|k4 (again0 (ior .i64 (ishl .i64 x8 8) (IntKind.wrap .i64 (bt r1.s t9)),IntKind.wrap .i64 (t9+1)) ()) [0] ⟨rfl,rfl,rfl,rfl,rfl,trivial⟩ rfl
    ·refine J5 rfl<|k4 (out0 (x8,t9) ()) [0] ⟨rfl,rfl,rfl,rfl,rfl,trivial⟩ rfl
 ·intro join4
  refine G0 rfl<|sQ (dMv rfl) rfl<|sQ (dMv rfl) rfl<|sQ (dNc ptLit rfl) rfl<|sQ (P2 fa72_1 rfl) rfl<|sQ (Q5 (j:=0) g4 rfl rfl rfl) rfl<|sQ (dMv rfl) rfl<|Q4 (fun h6=>?_) (fun h6=>?_)
  ·refine sQu (j:=5) rfl rfl rfl h6 rfl rfl<|sQu (j:=5) rfl rfl rfl h6 rfl rfl<|sQu (j:=5) rfl rfl rfl h6 rfl rfl<|sQu (j:=5) rfl rfl rfl h6 rfl rfl<|sQu (j:=5) rfl rfl rfl h6 rfl rfl<|sQu (j:=5) rfl rfl rfl h6 rfl rfl<|sQu (j:=5) rfl rfl rfl h6 rfl rfl<|sQ (W1 rfl h6 rfl) rfl<|sQ (dNc ptLit rfl) rfl<|sQ (P2 fa72_1 rfl) rfl<|V4 (j:=0) z4 rfl rfl rfl (cOne (oLit rfl)) ⟨(oLit rfl),trivial⟩ rfl (le_ rfl)<|j0<|k4 (join4 true ()) [0] ⟨rfl,rfl,trivial⟩ rfl
  ·refine sQg (j:=5) rfl rfl rfl (eq_false_of_ne_true h6) rfl (dMv rfl) rfl<|sQg (j:=5) rfl rfl rfl (eq_false_of_ne_true h6) rfl (dNc ptLit rfl) rfl<|sQg (j:=5) rfl rfl rfl (eq_false_of_ne_true h6) rfl (P2 fa72_0 rfl) rfl<|sQg (j:=5) rfl rfl rfl (eq_false_of_ne_true h6) rfl (Q5 (j:=0) g9 rfl rfl rfl) rfl<|sQg (j:=5) rfl rfl rfl (eq_false_of_ne_true h6) rfl (J9 Try.underlying9 rfl) rfl<|sQg (j:=5) rfl rfl rfl (eq_false_of_ne_true h6) rfl (dMv rfl) rfl<|sQg (j:=5) rfl rfl rfl (eq_false_of_ne_true h6) rfl (dLt rfl rfl) rfl<|sQ (V0 rfl (eq_false_of_ne_true h6) rfl) rfl<|sQ (dNc ptLit rfl) rfl<|sQ (P2 fa72_1 rfl) rfl<|V4 (j:=0) z4 rfl rfl rfl (cOne (oLit rfl)) ⟨(oLit rfl),trivial⟩ rfl (le_ rfl)<|j0<|k4 (join4 (decide ((r1.s.size:Int)<size3)) ()) [0] ⟨rfl,rfl,trivial⟩ rfl
def j9 (K:Nat) (r1:Pack_reader):Option (Int×Pack_reader):=(M0 K (⟨r1.s,r1.bad⟩:Pack_reader) 4).bind fun r3=>some (r3.1,(⟨r3.2.s,r3.2.bad⟩:Pack_reader))
theorem kc (K:Nat) (r1:Pack_reader) (b2:Nat):Hands Try.prog 49 [.lit (.pointer (some ⟨b2,0,none⟩))] ([.box b2 [.lit (.string r1.s),Ab r1.bad]]) (j9 K r1) (fun (r:(Int×Pack_reader)) (_:Unit)=>.ifc 3 (Ai .i64 r.1)) (fun (r:(Int×Pack_reader)) (_:Unit)=>[.box b2 [.lit (.string r.2.s),Ab r.2.bad]]):=by
 refine obj_of Try.func49 rfl Try.ntmps49 (le_ rfl) ?_
 refine Q0<|G0 rfl<|sQ (dAs rfl) rfl<|j0<|Q0<|G0 rfl<|sQ (dMv rfl) rfl<|V1 fun r3 e4=>J2 [0] ent28 rfl (W0 K _ _ _) e4 rfl (.s rfl<|.s rfl .nil) rfl fun _=>sQ (Vb ni3 rfl) rfl<|sQ (dAs rfl) rfl<|j0<|sPk [0] (H':=[.box b2 [.lit (.string r3.2.s),Ab r3.2.bad]]) rfl<|Q2 [] Try.func49 Try.results49 (rT rfl) ⟨(),rfl,rfl⟩
def slices_Clip_int_int (K:Nat) (s1:(List Int)):Option (List Int):=some (sl s1 0 (s1.length:Int))
theorem slices_Clip_int_int_ok (K:Nat) (s1:(List Int)):Pure Try.prog 51 [.fsl (cI .i64) s1] (slices_Clip_int_int K s1) (fun r=>.fsl (cI .i64) r):=by
 refine spec_of' Try.func51 rfl Try.ntmps51 (le_ rfl) ?_
 refine Q0<|G0 rfl<|sQ (dAs rfl) rfl<|j0<|Q0<|G0 rfl<|sQ (dMv rfl) rfl<|sQ (dMv rfl) rfl<|sQ (P6 Try.underlying47 rfl) rfl<|sQ (dMv rfl) rfl<|sQ (P6 Try.underlying47 rfl) rfl<|sQ (Qd Try.underlying47 z3 rfl rfl rfl (Int.natCast_nonneg _) (Int.le_refl _) (Int.le_refl _)) rfl<|sQ (dAs rfl) rfl<|j0<|Q2 [] Try.func51 Try.results51 (rT rfl) ⟨rfl,rfl⟩
def W5.l0 (K:Nat) (all1:(List Int)):Nat→((List Int)×Int)→Option ((List Int)×Int)
 | 0,_=>none
 | m+1,(xs4,t5)=>if t5<(all1.length:Int) then if 0≤t5 then if (xs4.length+([rd all1 t5]:List Int).length)*8≤140737488355328 then W5.l0 K all1 m (xs4++([rd all1 t5]:List Int),IntKind.wrap .i64 (t5+1)) else none else none else some (xs4,t5)
def W5 (K:Nat) (all1:(List Int)):Option (List Int):=(W5.l0 K all1 K (([]:List Int),0)).bind fun (xs4,t5)=>(slices_Clip_int_int K xs4).bind fun r10=>some r10
theorem gb (K:Nat) (all1:(List Int)):Pure Try.prog 48 [.fsl (cIf 3 fun (x:Int)=>Ai .i64 x) all1] (W5 K all1) (fun r=>.fsl (cI .i64) r):=by
 refine spec_of' Try.func48 rfl Try.ntmps48 (le_ rfl) ?_
 refine Q0<|G0 rfl<|sQ (dAs rfl) rfl<|j0<|Q0<|G0 rfl<|sQ (dAs rfl) rfl<|j0<|Q0<|Q0<|G0 rfl<|sQ (dMv rfl) rfl<|sQ (P6 Try.underlying75 rfl) rfl<|sQ (dMv rfl) rfl<|j0<|pb 3 3 (cI .i64) rfl fun v2=>G6 (W5.l0 K all1) (fun ((xs4,t5):((List Int)×Int)) (v3:Value)=>([(3,.sv v3),(6,.fsl (cIf 3 fun (x:Int)=>Ai .i64 x) all1),(7,Ai .i64 (all1.length:Int)),(8,Ai .i64 t5)]:Fr)) (fun ((xs4,t5):((List Int)×Int)) (v3:Value)=>([.own 3 (cI .i64) v3 xs4]:List Res)) (fun ((xs4,t5):((List Int)×Int)) (v3:Value)=>([(3,.sv v3),(6,.fsl (cIf 3 fun (x:Int)=>Ai .i64 x) all1),(7,Ai .i64 (all1.length:Int)),(8,Ai .i64 t5)]:Fr)) (fun ((xs4,t5):((List Int)×Int)) (v3:Value)=>([.own 3 (cI .i64) v3 xs4]:List Res)) v2 (fun _=>rfl) [] ⟨rfl,rfl,rfl,rfl,trivial⟩ rfl ?_ ?_
 ·rintro ⟨xs4,t5⟩ v3
  refine Q0<|G0 rfl<|sQ (dMv rfl) rfl<|gc 0 rfl<|tc 18 0 rfl rfl<|V1 fun r10 e11=>sQ (j4 ent51 (slices_Clip_int_int_ok K _) e11 (.s rfl .nil)) rfl<|sQ (dAs rfl) rfl<|j0<|Q2 [0] Try.func48 Try.results48 (rT rfl) ⟨rfl,rfl⟩
 ·rintro m ⟨xs4,t5⟩ v3 again0 out0
  refine Q0<|G0 rfl<|sQ (dLt rfl rfl) rfl<|j0<|Q0<|P5 rfl (fun h6=>?_) (fun h6=>?_)
  ·refine M3<|Q0<|f7<|Q0<|G0 rfl<|t6 fun h7=>sQ (dIx Try.underlying75 z20 rfl rfl h7 h6) rfl<|sQ (dLd g20 rfl rfl) rfl<|sQ (dAs rfl) rfl<|j0<|G0 rfl<|sQ (dMv rfl) rfl<|sQ (dMv rfl) rfl<|sQ (dTA ni3 rfl) rfl<|sQ (dBS (c:=(cI .i64)) (xs:=([rd all1 t5]:List Int)) Try.underlying47 z3 La (.c rfl (cOne (oLit rfl)) .nil) rfl) rfl<|t6 fun h8=>sAp (j:=0) Try.underlying47 La rfl rfl rfl rfl h8 rfl rfl fun v9=>sQ (dAs rfl) rfl<|j0<|P4<|G0 rfl<|sQ (Q7 rfl rfl) rfl<|sQ (dMv rfl) rfl<|j0<|k4 (again0 (xs4++([rd all1 t5]:List Int),IntKind.wrap .i64 (t5+1)) v9) [0] ⟨rfl,rfl,rfl,rfl,trivial⟩ rfl
  ·refine J5 rfl<|k4 (out0 (xs4,t5) v3) [0] ⟨rfl,rfl,rfl,rfl,trivial⟩ rfl
def f5.l0 (K:Nat):Nat→((List Int)×ByteArray×Bool×Int)→Option ((List Int)×ByteArray×Bool×Int)
 | 0,_=>none
 | m+1,(xs6,c7,c8,n9)=>if 0<n9 then if (!c8)=true then (j9 K (⟨c7,c8⟩:Pack_reader)).bind fun r12=>if (xs6.length+([r12.1]:List Int).length)*16≤140737488355328 then f5.l0 K m (xs6++([r12.1]:List Int),r12.2.s,r12.2.bad,IntKind.wrap .i64 (n9-1)) else none else some (xs6,c7,c8,n9) else some (xs6,c7,c8,n9)
def f5 (K:Nat) (r1:Pack_reader) (n3:Int):Option ((List Int)×Pack_reader):=(f5.l0 K K (([]:List Int),r1.s,r1.bad,n3)).bind fun (xs6,c7,c8,n9)=>some (xs6,(⟨c7,c8⟩:Pack_reader))
theorem M8 (K:Nat) (r1:Pack_reader) (n3:Int) (b2:Nat):Hands Try.prog 30 [.lit (.pointer (some ⟨b2,0,none⟩)),Ai .i64 n3,.lit (.func (.func 49) #[] #[])] ([.box b2 [.lit (.string r1.s),Ab r1.bad]]) (f5 K r1 n3) (fun (r:((List Int)×Pack_reader)) (_:Unit)=>.fsl (cIf 3 fun (x:Int)=>Ai .i64 x) r.1) (fun (r:((List Int)×Pack_reader)) (_:Unit)=>[.box b2 [.lit (.string r.2.s),Ab r.2.bad]]):=by
 refine obj_of Try.func30 rfl Try.ntmps30 (le_ rfl) ?_
 refine Q0<|G0 rfl<|sQ (dAs rfl) rfl<|j0<|Q0<|G0 rfl<|sQ (dAs rfl) rfl<|j0<|Q0<|pb 7 20 (cIf 3 fun (x:Int)=>Ai .i64 x) rfl fun v4=>G6 (f5.l0 K) (fun ((xs6,c7,c8,n9):((List Int)×ByteArray×Bool×Int)) (v5:Value)=>([(0,.lit (.pointer (some ⟨b2,0,none⟩))),(1,Ai .i64 n9),(2,.lit (.func (.func 49) #[] #[])),(7,.sv v5)]:Fr)) (fun ((xs6,c7,c8,n9):((List Int)×ByteArray×Bool×Int)) (v5:Value)=>([.own 20 (cIf 3 fun (x:Int)=>Ai .i64 x) v5 xs6,.box b2 [.lit (.string c7),Ab c8]]:List Res)) (fun ((xs6,c7,c8,n9):((List Int)×ByteArray×Bool×Int)) (v5:Value)=>([(0,.lit (.pointer (some ⟨b2,0,none⟩))),(1,Ai .i64 n9),(2,.lit (.func (.func 49) #[] #[])),(7,.sv v5)]:Fr)) (fun ((xs6,c7,c8,n9):((List Int)×ByteArray×Bool×Int)) (v5:Value)=>([.own 20 (cIf 3 fun (x:Int)=>Ai .i64 x) v5 xs6,.box b2 [.lit (.string c7),Ab c8]]:List Res)) v4 (fun _=>rfl) [] ⟨rfl,rfl,rfl,rfl,trivial⟩ rfl ?_ ?_
 ·rintro ⟨xs6,c7,c8,n9⟩ v5
  refine Q0<|G0 rfl<|sQ (dMv rfl) rfl<|sQ (dAs rfl) rfl<|j0<|sFz 0 rfl<|sUp 6 0 rfl rfl<|sPk [1] (H':=[.box b2 [.lit (.string c7),Ab c8]]) rfl<|Q2 [] Try.func30 Try.results30 (rT rfl) ⟨(),rfl,rfl⟩
 ·rintro m ⟨xs6,c7,c8,n9⟩ v5 again0 out0
  refine Q0<|Q0<|G0 rfl<|sQ (dMv rfl) rfl<|sQ (dGt rfl rfl) rfl<|sQ (dMv rfl) rfl<|Q4 (fun h10=>?_) (fun h10=>?_)
  ·refine sQg (j:=2) rfl rfl rfl (decide_eq_true h10) rfl (dMv rfl) rfl<|sQg (j:=2) rfl rfl rfl (decide_eq_true h10) rfl (dNc ptLit rfl) rfl<|sQg (j:=2) rfl rfl rfl (decide_eq_true h10) rfl (P2 fa72_1 rfl) rfl<|sQg (j:=2) rfl rfl rfl (decide_eq_true h10) rfl (Q5 (j:=1) g4 rfl rfl rfl) rfl<|sQg (j:=2) rfl rfl rfl (decide_eq_true h10) rfl (L8 rfl) rfl<|sQ (W1 rfl (decide_eq_true h10) rfl) rfl<|j0<|M6 rfl (fun h11=>?_) (fun h11=>?_)
   ·refine M3<|Q0<|f7<|G0 rfl<|sQ (dMv rfl) rfl<|sQ (dMv rfl) rfl<|sQ (dMv rfl) rfl<|V1 fun r12 e13=>J2 [1] ent49 rfl (kc K _ _) e13 rfl (.s rfl .nil) rfl fun _=>sQ (dBS (c:=(cIf 3 fun (x:Int)=>Ai .i64 x)) (xs:=([r12.1]:List Int)) Try.underlying75 z20 W8 (.c rfl (cOne oIfc) .nil) rfl) rfl<|t6 fun h14=>sAp (j:=1) Try.underlying75 W8 rfl rfl rfl rfl h14 rfl rfl fun v15=>sQ (dAs rfl) rfl<|j0<|P4<|G0 rfl<|sQ (dMv rfl) rfl<|sQ (vb rfl rfl) rfl<|sQ (dAs rfl) rfl<|j0<|k4 (again0 (xs6++([r12.1]:List Int),r12.2.s,r12.2.bad,IntKind.wrap .i64 (n9-1)) v15) [1,0] ⟨rfl,rfl,rfl,rfl,trivial⟩ rfl
   ·refine J5 rfl<|k4 (out0 (xs6,c7,c8,n9) v5) [0,0] ⟨rfl,rfl,rfl,rfl,trivial⟩ rfl
  ·refine sQu (j:=2) rfl rfl rfl (decide_eq_false h10) rfl rfl<|sQu (j:=2) rfl rfl rfl (decide_eq_false h10) rfl rfl<|sQu (j:=2) rfl rfl rfl (decide_eq_false h10) rfl rfl<|sQu (j:=2) rfl rfl rfl (decide_eq_false h10) rfl rfl<|sQu (j:=2) rfl rfl rfl (decide_eq_false h10) rfl rfl<|sQ (V0 rfl (decide_eq_false h10) rfl) rfl<|j0<|L7 rfl rfl<|J5 rfl<|k4 (out0 (xs6,c7,c8,n9) v5) [0,0] ⟨rfl,rfl,rfl,rfl,trivial⟩ rfl
end Go.Proofs.Ytokccimmgilciaa

