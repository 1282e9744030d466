import Derived.Test.YtcoineklodmbnaaGreatW2
set_option linter.unusedVariables false
set_option linter.unusedSimpArgs false
set_option linter.unusedSectionVars false
namespace Go.Proofs.YtcoineklodmbnaaGreat
namespace S
open Go.RowKit
section
variable {H:List Res}{w0 w:World}{F0 Z0 F Z:Nat→Prop}
theorem Inv.part {j:Nat}{r:Res}{I:Type}{ra rb:I→Res}(hi:Inv w0 w F0 Z0 F Z H)(hj:H[j]?=some r)
  (hs:∀ F1,r.h Z w F1→∃ i,∃ G1 G2:Nat→Prop,(ra i).h Z w G1∧(rb i).h Z w G2∧(∀ b,G1 b→F1 b∧¬ G2 b)∧(∀ b,G2 b→F1 b)):∃ i,Inv w0 w F0 Z0 F Z (ra i::rb i::H.eraseIdx j):=by
 obtain ⟨F1,F2,h1,h2,d1,d2⟩:=hi.res.take hj;obtain ⟨i,G1,G2,g1,g2,e1,e2⟩:=hs F1 h1;refine ⟨i,hi.base,hi.z0,hi.zin,hi.fin,G1,fun b=>G2 b∨F2 b,g1,⟨G2,F2,g2,h2,fun b hb=>⟨.inl hb,(d1 b (e2 b hb)).2⟩,fun b hb=>.inr hb⟩,fun b hb=>⟨(d1 b (e1 b hb).1).1,fun x=>x.elim (e1 b hb).2 (d1 b (e1 b hb).1).2⟩,fun b hb=>hb.elim (fun x=>(d1 b (e2 b x)).1) (d2 b)⟩
theorem Inv.meet {j j2:Nat}{ra rb r:Res}(hi:Inv w0 w F0 Z0 F Z H)(hj:H[j]?=some ra)(hj2:(H.eraseIdx j)[j2]?=some rb)
  (hs:∀ G1 G2:Nat→Prop,(∀ b,G1 b→¬ G2 b)→ra.h Z w G1→rb.h Z w G2→r.h Z w fun b=>G1 b∨G2 b):Inv w0 w F0 Z0 F Z (r::(H.eraseIdx j).eraseIdx j2):=by
 obtain ⟨F1,F2,h1,h2,d1,d2⟩:=hi.res.take hj;obtain ⟨G1,G2,g1,g2,e1,e2⟩:=h2.take hj2;refine ⟨hi.base,hi.z0,hi.zin,hi.fin,fun b=>F1 b∨G1 b,G2,hs F1 G1 (fun b hb x=>(d1 b hb).2 (e1 b x).1) h1 g1,g2,fun b hb=>?_,fun b hb=>d2 b (e2 b hb)⟩;rcases hb with hb|hb
 ·exact ⟨(d1 b hb).1,fun x=>(d1 b hb).2 (e2 b x)⟩
 ·exact ⟨d2 b (e1 b hb).1,(e1 b hb).2⟩
end
section
variable {P:Program}{f:FuncId}{n:Nat}{ops:Array Oper}{l:List Oper}{k:List Item}{fr:Fr}{H:List Res}{ρ R:Type}{x:Option ρ}{X:ρ→Option R}{K:R→AV→List Res→Prop}{ty t t' e t0:TypeId}{d:Nat}{pos:String}{aft:Array Edge}
theorem Pm {todo:List Item}(j j2:Nat){ra rb r:Res}(hj:H[j]?=some ra)(hj2:(H.eraseIdx j)[j2]?=some rb)
  (hs:∀ Z w,∀ G1 G2:Nat→Prop,(∀ b,G1 b→¬ G2 b)→ra.h Z w G1→rb.h Z w G2→r.h Z w fun b=>G1 b∨G2 b) (h:Sim P f n todo fr (r::(H.eraseIdx j).eraseIdx j2) x X K):Sim P f n todo fr H x X K:=by
 intro q hq w0 F0 Z0 w F Z tmps hn hi hf;exact h q hq w0 F0 Z0 w F Z tmps hn (hi.meet hj hj2 (hs Z w)) hf
theorem Li {todo:List Item}(j:Nat){r r':Res}(hj:H[j]?=some r)(hs:∀ Z w F1,r.h Z w F1→r'.h Z w F1)(h:Sim P f n todo fr (H.set j r') x X K):Sim P f n todo fr H x X K:=by
 intro q hq w0 F0 Z0 w F Z tmps hn hi hf;obtain ⟨F',hi',_⟩:=hi.turn (w':=w) (r':=r') hj fun G1 h1 _=>⟨G1,Step.refl _ _,hs _ _ _ h1,fun _ x=>.inl x⟩
 exact h q hq w0 F0 Z0 w F' Z tmps hn hi' hf
end
structure Tr (T:Type) where
 t:TypeId
 c:Co (T×Value)
 q:Co T
 ch:T→Value→Res
 sz:q.sz=c.sz
 fz:∀ {x:T} {u:Value} {Z F:Nat→Prop} {w:World} {vs:List Value},(ch x u).h Z w F→AllP Z w (c.e (x,u)) vs→AllP (fun b=>Z b∨F b) w (q.e x) vs
def Res.kids {T:Type}(ch:T→Value→Res)(xs:List T)(us:List Value)(o:Option Nat):Res :=
 ⟨fun Z w F=>∃ Fs:Nat→Nat→Prop,(∀ k x u,xs[k]?=some x→us[k]?=some u→o≠some k→(ch x u).h Z w (Fs k))∧(∀ k b,Fs k b→F b)∧∀ k k' b,Fs k b→Fs k' b→k=k',
  fun hz hk ⟨Fs,h1,h2,h3⟩=>⟨Fs,fun k x u hx hu ho=>(ch x u).st hz (fun b hb=>hk b (hb.imp id (h2 k b))) (h1 k x u hx hu ho),h2,h3⟩⟩
def holed (o:Option (Int×Value)):Option Nat:=o.map fun p=>p.1.toNat
def Res.tro {T:Type}(D:Tr T)(v:Value)(xs:List T)(o:Option (Int×Value)):Res :=
 ⟨fun Z w F=>∃ us:List Value,∃ F1 F2:Nat→Prop,us.length=xs.length∧(∀ (i:Int) (u:Value),o=some (i,u)→us[i.toNat]?=some u)∧(Res.own D.t D.c v (xs.zip us)).h Z w F1∧(Res.kids D.ch xs us (holed o)).h Z w F2∧(∀ b,F1 b→F b∧¬ F2 b)∧∀ b,F2 b→F b,
  fun hz hk ⟨us,F1,F2,h1,h2,h3,h4,d1,d2⟩=>⟨us,F1,F2,h1,h2,Res.st _ hz (fun b hb=>hk b (hb.imp id fun x=>(d1 b x).1)) h3,Res.st _ hz (fun b hb=>hk b (hb.imp id (d2 b))) h4,d1,d2⟩⟩
theorem zip_len {T:Type}{xs:List T}{us:List Value}(hl:us.length=xs.length):(xs.zip us).length=xs.length:=by simp [hl]
theorem own_congr {T:Type}{t:TypeId}{c:Co T}{v:Value}{xs ys:List T}{Z F:Nat→Prop}{w:World}(h:(Res.own t c v xs).h Z w F)(hl:ys.length=xs.length)(hc:∀ (k:Nat) (x y:T),xs[k]?=some x→ys[k]?=some y→c.e y=c.e x):(Res.own t c v ys).h Z w F:=by
 rcases h with ⟨cs,h1,h2,h3⟩|⟨rfl,A,rfl⟩
 ·refine .inl ⟨cs,hl ▸ h1,h2,fun k y hy=>?_⟩;have hk:k<xs.length:=by
   rcases Nat.lt_or_ge k ys.length with h|h
   ·omega
   ·simp [h] at hy
  obtain ⟨vs,g1,g2⟩:=h3 k xs[k] (List.getElem?_eq_getElem hk);exact ⟨vs,by rw [hc k _ y (List.getElem?_eq_getElem hk) hy];exact g1,g2⟩
 ·exact .inr ⟨List.length_eq_zero_iff.1 (by simpa using hl),A,rfl⟩
theorem tro_fsl {T:Type}{D:Tr T}{v:Value}{xs:List T}{Z F:Nat→Prop}{w:World}(h:(Res.tro D v xs none).h Z w F):(AV.fsl D.q xs).p (fun b=>Z b∨F b) w v:=by
 obtain ⟨us,F1,F2,hl,_,h3,⟨Fs,k1,k2,k3⟩,d1,d2⟩:=h;obtain ⟨A,m,e1,hc,hel⟩:=own_fsl h3;rw [zip_len hl] at e1 hc;refine ⟨A,m,e1,hc,fun i x hx=>?_⟩;have hi:i<xs.length:=by
  rcases Nat.lt_or_ge i xs.length with h|h
  ·exact h
  ·simp [h] at hx
 have hu:us[i]?=some (us[i]'(by omega)):=List.getElem?_eq_getElem (by omega);obtain ⟨a,ea,hb,vs,g1,g2⟩:=hel i (x,us[i]'(by omega)) (by simp [List.getElem?_zip_eq_some,hx,hu]);refine ⟨a,ea,hb.imp id fun y=>(d1 _ y).1,vs,?_,by rw [D.sz];exact g2⟩;have hk:=(D.ch x (us[i]'(by omega))).st (Z':=fun b=>Z b∨F1 b) (fun _ y=>.inl y) (fun _ _=>rfl) (k1 i x _ hx hu (by simp [holed]));exact (D.fz hk g1).st (fun b hb=>by rcases hb with (y|y)|y;exact .inl y;exact .inr (d1 b y).1;exact .inr (d2 b (k2 i b y))) (fun _ _=>rfl)
section
variable {P:Program}{f:FuncId}{n:Nat}{ops:Array Oper}{l:List Oper}{k:List Item}{fr:Fr}{H:List Res}{ρ R:Type}{x:Option ρ}{X:ρ→Option R}{K:R→AV→List Res→Prop}{ty t t' e t0:TypeId}{d:Nat}{pos:String}{aft:Array Edge}
variable {T:Type}{D:Tr T}{v:Value}{xs:List T}{j:Nat}{o:Option (Int×Value)}
inductive LendL (H:List Res):List AV→List AV→Prop
 | n:LendL H [] []
 | k {a:AV} {aS bs:List AV}:LendL H aS bs→LendL H (a::aS) (a::bs)
 | e {T:Type} (c:Co T) {aS bs:List AV}:LendL H aS bs→LendL H (.lit (.slice none 0 0)::aS) (.fsl c []::bs)
 | o {T:Type} {t:TypeId} {c:Co T} {v:Value} {xs:List T} {aS bs:List AV} (j:Nat):H[j]?=some (.own t c v xs)→LendL H aS bs→LendL H (.sv v::aS) (.fsl c xs::bs)
 | z {T:Type} {c:Co T} {v:Value} {xs:List T} {aS bs:List AV} (j:Nat):H[j]?=some (.fz c v xs)→LendL H aS bs→LendL H (.sv v::aS) (.fsl c xs::bs)
 | t {T:Type} {D:Tr T} {v:Value} {xs:List T} {aS bs:List AV} (j:Nat):H[j]?=some (.tro D v xs none)→LendL H aS bs→LendL H (.sv v::aS) (.fsl D.q xs::bs)
 | x {a b:AV} {aS bs:List AV}:(∀ {Z F:Nat→Prop} {w:World} {u:Value},HAll H Z w F→a.p Z w u→b.p (fun b=>Z b∨F b) w u)→LendL H aS bs→LendL H (a::aS) (b::bs)
theorem lend_ok {aS bs:List AV}(h:LendL H aS bs){Z F:Nat→Prop}{w:World}(hH:HAll H Z w F):∀ {vs:List Value},AllP Z w aS vs→AllP (fun b=>Z b∨F b) w bs vs:=by
 have hzz:∀ b,Z b→Z b∨F b:=fun _ x=>.inl x
 induction h with
 | n=>intro vs h;cases h;exact .nil
 | k _ ih=>intro vs h;cases h with|cons h1 h2=>exact .cons (AV.st _ hzz (Keep.refl _ _) h1) (ih h2)
 | e c _ ih=>intro vs h;cases h with|cons h1 h2=>exact .cons (by rw [show _=_ from h1];exact nil_fsl c _ _) (ih h2)
 | o j hj _ ih =>
  intro vs h;cases h with|cons h1 h2 =>
  obtain ⟨F1,g1,hF⟩:=hH.at hj;exact .cons (by rw [h1.1];exact AV.st _ (fun b hb=>hb.imp id (hF b)) (Keep.refl _ _) (own_fsl g1)) (ih h2)
 | z j hj _ ih =>
  intro vs h;cases h with|cons h1 h2 =>
  obtain ⟨F1,g1,hF⟩:=hH.at hj;exact .cons (by rw [h1.1];exact AV.st _ hzz (Keep.refl _ _) g1) (ih h2)
 | t j hj _ ih =>
  intro vs h;cases h with|cons h1 h2 =>
  obtain ⟨F1,g1,hF⟩:=hH.at hj;exact .cons (by rw [h1.1];exact AV.st _ (fun b hb=>hb.imp id (hF b)) (Keep.refl _ _) (tro_fsl g1)) (ih h2)
 | x hab _ ih=>intro vs h;cases h with|cons h1 h2=>exact .cons (hab hH h1) (ih h2)
def FlatR (r:Res):Prop:=∀ Z Z' w F,r.h Z w F→r.h Z' w F
theorem flSv {v:Value}:Flat (.sv v):=fun _ _ _ _ _ h=>h
theorem flOwn {t:TypeId}{c:Co T}{xs:List T}(h:∀ x,FlatL (c.e x)):FlatR (.own t c v xs):=fun Z Z' w F hr=>hr.imp (fun ⟨cs,h1,h2,h3⟩=>⟨cs,h1,h2,fun i x hx=>let ⟨vs,g1,g2⟩:=h3 i x hx;⟨vs,flL (h x) g1,g2⟩⟩) id
def FlatRs:List Res→Prop
 | []=>True
 | r::rs=>FlatR r∧FlatRs rs
theorem HAll.flat {H:List Res}(h:FlatRs H){Z Z':Nat→Prop}{w:World}:∀ {F:Nat→Prop},HAll H Z w F→HAll H Z' w F:=by
 induction H with
 | nil=>intro F _;trivial
 | cons r rs ih=>rintro F ⟨F1,F2,h1,h2,d1,d2⟩;exact ⟨F1,F2,h.1 _ _ _ _ h1,ih h.2 h2,d1,d2⟩
theorem rj {g:FuncId}{y:Operand}{args:Array Operand}{ts:Array TypeId}{avs:List AV}{Q I:Type}{z:Option Q}{A:Q→I→AV}{B:Q→I→List Res}{r:Q}(hg:Ent P g)(hy:arg fr y=some (.lit (.func (.func g) #[] #[])))(hp:Hands P g avs [] z A B)(hz:z=some r)(hfa:∀ ι,Flat (A r ι))(hfb:∀ ι,FlatRs (B r ι))(ha:Args fr H args.toList avs)(hdn:Nat.blt d n=true)
  (h:∀ ι,SimL P f n ops l k ((d,A r ι)::fr) (B r ι++H) x X K):SimL P f n ops (⟨some d,.call ⟨.value y,args,ts⟩,ty,pos,aft,none⟩::l) k fr H x X K:=by
 intro is hs r' hr w0 F0 Z0 w F Z tmps hn hi hf
 cases is with
 | nil=>simp at hs
 | cons i is =>
  simp only [List.map_cons,List.cons.injEq] at hs;have hdn':d<n:=by simpa [Nat.blt_eq] using hdn
  have all:∀ {x:Operand} {a:AV},arg fr x=some a→a.p Z w ((⟨tmps,[]⟩:Act).eval x):=by
   intro x a hx
   cases x with
   | tmp t=>exact hf t a hx
   | const v=>simp [arg] at hx;subst hx;rfl
   | func g=>simp [arg] at hx;subst hx;rfl
   | global g=>simp [arg] at hx;subst hx;rfl
  have hargs:=args_ok (ρ:=(⟨tmps,[]⟩:Act).eval) ha hi.res fun {x a} _ hx=>all hx
  have hin:Inv w w (fun _=>False) (fun b=>Z b∨F b) (fun _=>False) (fun b=>Z b∨F b) []:=⟨Base.refl _ _,fun _ x=>x,fun b hb=>⟨hb.elim (fun x=>(hi.zin b x).1) (fun x=>(hi.fin b x).1),.inl hb⟩,fun _ x=>x.elim,trivial⟩
  refine .enter hs.1 (wanted_none rfl) (call_run' (all hy) rfl hg) (hp r hz w (fun _=>False) (fun b=>Z b∨F b) _ hargs hin) ?_;rintro e w'' ⟨v,rfl,F',Z',av,H',⟨ι,rfl,rfl⟩,hinv,hv⟩;refine ⟨v,rfl,?_⟩;have s:Step w w'' (fun _=>False):=⟨hinv.base.os,hinv.base.tape,hinv.base.output,hinv.base.drawn,hinv.base.size,fun b hb _=>hinv.base.keep b hb id⟩
  have hk:=s.keep' hi;have hF':∀ b,F' b→w.heap.size≤b∧b<w''.heap.size:=fun b hb=>⟨(hinv.fin b hb).2.1.elim (fun z=>z.elim) id,(hinv.fin b hb).1⟩
  refine h ι is hs.2 r' hr w0 F0 Z0 w'' (fun b=>F' b∨F b) Z _ (by simpa [putT] using hn) ?_ ((hf.st (fun _ x=>x) hk).put (by omega) (hfa ι _ _ _ _ _ hv));refine hi.step s (fun _ x=>x.elim) (fun _ x=>x) (fun _ x=>.inl x) (fun b hb=>?_) ((hinv.res.flat (hfb ι)).append (hi.res.st (fun _ x=>x) fun b hb=>s.keep b (hb.elim (fun x=>(hi.zin b x).1) (fun x=>(hi.fin b x).1)) id) fun b hb hF=>?_)
  ·rcases hb with hb|hb
   ·exact ⟨.inr (hF' b hb),fun hz=>by have:=(hi.zin b hz).1;have:=(hF' b hb).1;omega⟩
   ·exact ⟨.inl hb,(hi.fin b hb).2.2⟩
  ·have:=(hi.fin b hF).1;have:=(hF' b hb).1;omega
theorem own_nil {t:TypeId}{c:Co T}{Z F:Nat→Prop}{w:World}:(Res.own t c (.slice none 0 0) ([]:List T)).h Z w F:=.inr ⟨rfl,none,rfl⟩
end
end S
namespace S
open Go.RowKit
def AV.vwl (v:Value)(lo:Nat):AV:=⟨fun _ _ u=>∃ A n m,v = .slice A n m∧lo≤n∧n≤m∧u = .slice (if m=lo then A else A.map (·.add lo)) (n-lo) (m-lo),fun _ _ h=>h⟩
def AV.vwr (v:Value)(hi:Nat):AV:=⟨fun _ _ u=>∃ A n m,v = .slice A n m∧hi≤n∧u = .slice A hi m,fun _ _ h=>h⟩
section
variable {P:Program}{f:FuncId}{n:Nat}{ops:Array Oper}{l:List Oper}{k:List Item}{fr:Fr}{H:List Res}{ρ R:Type}{x:Option ρ}{X:ρ→Option R}{K:R→AV→List Res→Prop}{ty t t' e t0:TypeId}{d:Nat}{pos:String}{aft:Array Edge}
variable {T:Type}{c:Co T}{v:Value}{xs:List T}{j:Nat}
theorem own_room {Z F:Nat→Prop}{w:World}(h:(Res.own t0 c v xs).h Z w F):∃ A m,v = .slice A xs.length m∧xs.length≤m:=by
 obtain ⟨A,m,e,hm,_⟩:=own_fsl h;exact ⟨A,m,e,hm⟩
theorem Vm {y a:Operand}{ka:IntKind}{i:Int}(ht:P.underlying t=some (.slice e))(hsz:SizeIs P e 1)(hy:arg fr y=some (.sv v))(hj:H[j]?=some (.own t0 c v xs))(ha:arg fr a=some (Ai ka i))(h0:0≤i)(h1:i≤xs.length):D P n H (.slice t y (some a) none none) ty fr (.vwl v i.toNat) :=
 .of fun o ho hty w Z F ρ hH hf=>by
  obtain ⟨e1,_⟩:=hf (by simp [Op.operands]) hy;have e2:ρ a=_:=hf (by simp [Op.operands]) ha;obtain ⟨F1,h,_⟩:=hH.at hj;obtain ⟨A,q,e3,hq⟩:=own_room h;rw [e3] at e1;refine ⟨_,?_,A,_,_,e3,by omega,hq,rfl⟩;simp [execOp,ho,e1,e2,Instr.sliceAt,Instr.slice,Instr.sliceBounds,Instr.sliceBound,run_underlying ht,hsz _,Sem.run_bind,asIntOf,h0,h1]
theorem Mm {y b:Operand}{kb:IntKind}{m:Int}(ht:P.underlying t=some (.slice e))(hsz:SizeIs P e 1)(hy:arg fr y=some (.sv v))(hj:H[j]?=some (.own t0 c v xs))(hb:arg fr b=some (Ai kb m))(h1:0≤m)(h2:m≤xs.length):D P n H (.slice t y none (some b) none) ty fr (.vwr v m.toNat) :=
 .of fun o ho hty w Z F ρ hH hf=>by
  obtain ⟨e1,_⟩:=hf (by simp [Op.operands]) hy;have e3:ρ b=_:=hf (by simp [Op.operands]) hb;obtain ⟨F1,h,_⟩:=hH.at hj;obtain ⟨A,q,e4,hq⟩:=own_room h;rw [e4] at e1;have g1:m≤(q:Int):=by omega
  refine ⟨.slice A m.toNat q,?_,A,_,_,e4,by omega,rfl⟩;simp [execOp,ho,e1,e3,Instr.sliceAt,Instr.slice,Instr.sliceBounds,Instr.sliceBound,run_underlying ht,hsz _,Sem.run_bind,asIntOf,g1,h1];intro _;cases A <;> simp [Addr.add]
theorem write_own {w0 w:World}{F0 Z0 F Z:Nat→Prop}(hi:Inv w0 w F0 Z0 F Z H)(hsz:c.sz=1)(hj:H[j]?=some (.own t0 c v xs))(o:Nat)(zs:List T)(hz:0<zs.length)(ho:o+zs.length≤xs.length)(cs:List Value)(hcs:cs.length=zs.length)
  (hp:∀ (i:Nat) (z:T),zs[i]?=some z→∃ u,cs[i]?=some u∧AllP Z w (c.e z) [u]) (hone:∀ u ∈ cs,u.oneCell'=true):∃ g cap w' F',v = .slice (some ⟨g,0,none⟩) xs.length cap∧(storeCells ⟨g,o,none⟩ cs 0).run P w = .ok () w'∧Inv w0 w' F0 Z0 F' Z (H.set j (.own t0 c v (xs.take o++zs++xs.drop (o+zs.length))))∧Keep Z w w':=by
 obtain ⟨F1,hown,_⟩:=hi.res.at hj;obtain ⟨g,cap,cur,hv,⟨fz,hh,hfz⟩,hcap,hmx,hsize,hF,hrows⟩:=own_cells hown (by omega);rw [hsz,Nat.mul_one] at hsize;have hr:=run_storeCells_fz (P:=P) g o t0 fz cs 0 cur w hh hfz (by omega) hone;simp only [Nat.add_zero] at hr;obtain ⟨F',hi',hk⟩:=hi.turn (w':=w.setRow g (cur.toList.take o++cs++cur.toList.drop (o+cs.length)).toArray) (r':=.own t0 c v (xs.take o++zs++xs.drop (o+zs.length))) hj fun G1 hown' hz1=>by
  obtain ⟨g',cap',cur',hv',⟨fz',hh',hfz'⟩,hcap',hmx',hsize',hF',hrows'⟩:=own_cells hown' (by omega);rw [hv] at hv';simp at hv';obtain ⟨rfl,rfl⟩:=hv';rw [hh] at hh';cases hh';have s:=Step.setRow w g (cur.toList.take o++cs++cur.toList.drop (o+cs.length)).toArray G1 hF';have hkz:Keep Z w (w.setRow g (cur.toList.take o++cs++cur.toList.drop (o+cs.length)).toArray):=fun b hzz=>s.keep b (hz1 b hzz).1 (hz1 b hzz).2
  have hlen:(xs.take o++zs++xs.drop (o+zs.length)).length=xs.length:=by simp only [List.length_append,List.length_take,List.length_drop];omega
  have hsame:(cur.toList.take o++cs++cur.toList.drop (o+cs.length)).toArray.size=cur.size:=by
   simp only [List.size_toArray,List.length_append,List.length_take,List.length_drop,Array.length_toList];omega
  refine ⟨G1,s,.inl ⟨(cur.toList.take o++cs++cur.toList.drop (o+cs.length)).take xs.length,⟨?_,.inr ⟨g,cap,_,by rw [hlen];exact hv,Nat.zero_le _,⟨fz,setRow_heap w g cur _ t0 _ hh,by rw [hsame];exact hfz⟩,by rw [hlen];exact hcap,hmx,by rw [hsame,hsz];omega,by rw [hlen,hsz,Nat.mul_one]⟩⟩,fun b hb=>by rw [hv] at hb;cases hb;exact hF',?_⟩,fun _ x=>.inl x⟩
  ·rw [hlen,hsz];simp only [List.length_take,List.length_append,List.length_drop,Array.length_toList];omega
  ·intro i z hiz;rw [hsz,Nat.mul_one];have hil:i<xs.length:=by
    have:=(List.getElem?_eq_some_iff.1 hiz).1
    rwa [hlen] at this
   have old:∀ q,q<xs.length→∀ z,xs[q]?=some z→∃ u,cur.toList[q]?=some u∧AllP Z w (c.e z) [u]:=fun q hq z hqz=>by
    obtain ⟨vs,h2,h3⟩:=hrows q z hqz;have hl1:vs.length=1:=by rw [← h2.length,c.len,hsz]
    obtain ⟨u,rfl⟩:∃ u,vs=[u]:=List.length_eq_one_iff.1 hl1;have:=h3 0 u rfl;rw [hsz,Nat.mul_one,Nat.mul_one,Nat.add_zero,List.getElem?_take,if_pos hq] at this;exact ⟨u,this,h2⟩
   have key:∃ u,(cur.toList.take o++cs++cur.toList.drop (o+cs.length))[i]?=some u∧AllP Z w (c.e z) [u]:=by
    by_cases h1:i<o
    ·rw [List.append_assoc,List.getElem?_append_left (by simp;omega),List.getElem?_take,if_pos h1] at hiz;rw [List.append_assoc,List.getElem?_append_left (by simp;omega),List.getElem?_take,if_pos h1];exact old i hil z hiz
    ·by_cases h2:i<o+zs.length
     ·rw [List.getElem?_append_left (by simp;omega),List.getElem?_append_right (by simp;omega)] at hiz;rw [List.getElem?_append_left (by simp;omega),List.getElem?_append_right (by simp;omega)];have e1:(xs.take o).length=o:=by rw [List.length_take];omega
      have e2:(cur.toList.take o).length=o:=by rw [List.length_take,Array.length_toList];omega
      rw [e1] at hiz;rw [e2];exact hp _ z hiz
     ·have e1:(xs.take o++zs).length=o+zs.length:=by rw [List.length_append,List.length_take];omega
      have e2:(cur.toList.take o++cs).length=o+cs.length:=by rw [List.length_append,List.length_take,Array.length_toList];omega
      rw [List.getElem?_append_right (by omega),e1,List.getElem?_drop] at hiz;rw [List.getElem?_append_right (by omega),e2,List.getElem?_drop];have e3:o+cs.length+(i-(o+cs.length))=i:=by omega
      have e4:o+zs.length+(i-(o+zs.length))=i:=by omega
      rw [e4] at hiz;rw [e3];exact old i hil z hiz
   obtain ⟨u,h1,h2⟩:=key;refine ⟨[u],h2.st (fun _ y=>y) hkz,fun q z2 hq=>?_⟩
   cases q with
   | zero=>simp at hq;subst hq;rw [Nat.add_zero,List.getElem?_take,if_pos hil];exact h1
   | succ q=>simp at hq
 exact ⟨g,cap,_,F',hv,hr,hi',hk⟩
theorem Jl {y u:Operand}{ys:List T}(ht:P.underlying t=some (.slice e))(hs:SizeIs P e 1)(hsz:c.sz=1)(hy:arg fr y=some (.sv v))(hj:H[j]?=some (.own t0 c v xs))(hu:arg fr u=some (.fsl c ys))(hdn:Nat.blt d n=true)
  (h:SimL P f n ops l k ((d,Ai .i64 (((min ys.length xs.length:Nat):Int)))::fr) (H.set j (.own t0 c v (ys.take xs.length++xs.drop ys.length))) x X K):SimL P f n ops (⟨some d,.call ⟨.builtin .copy,#[y,u],#[t,t']⟩,ty,pos,aft,none⟩::l) k fr H x X K:=by
 refine ph (I:=Unit) (av:=fun _=>Ai .i64 (((min ys.length xs.length:Nat):Int))) (H':=fun _=>H.set j (.own t0 c v (ys.take xs.length++xs.drop ys.length))) (fun o ho hty w0 F0 Z0 w F Z ρ hinv hf=>?_) hdn (fun _=>h);obtain ⟨e1,_⟩:=hf (by simp [Op.operands,Call.operands]) hy;obtain ⟨A,m,e2,hA,hA'⟩:=cells_fsl (hf (by simp [Op.operands,Call.operands]) hu);obtain ⟨F1,hown,_⟩:=hinv.res.at hj;obtain ⟨B,q,e3,hq⟩:=own_room hown
 by_cases hz:min ys.length xs.length=0
 ·
  have e4:ys.take xs.length++xs.drop ys.length=xs:=by
   rcases Nat.min_eq_zero_iff.1 hz with h0|h0
   ·rw [List.length_eq_zero_iff.1 h0];simp
   ·rw [h0,List.take_zero,List.nil_append,List.length_eq_zero_iff.1 h0];simp
  have hset:H.set j (.own t0 c v (ys.take xs.length++xs.drop ys.length))=H:=by
   rw [e4];apply List.ext_getElem?;intro i;rw [List.getElem?_set]
   by_cases hij:j=i
   ·subst hij;rw [if_pos rfl]
    split
    ·exact hj.symm
    ·rename_i hlt;rw [List.getElem?_eq_none (by omega)]
   ·rw [if_neg hij]
  refine ⟨.int .i64 0,w,(),F,Z,?_,by rw [hset];exact hinv,fun _ x=>x,Keep.refl _ _,by rw [hz];rfl⟩;have hmin:Nat.min ys.length xs.length=0:=hz;cases A <;> cases B <;> simp [execOp,ho,hty,e1,e2,e3,resolve,invoke,builtin,Builtin.copy_,run_underlying ht,hs _,Builtin.lenOf,Builtin.firstCells,hmin,storeCells,Sem.run_bind,goInt,loadCells,loadCellsFrom]
 ·have hy0:ys≠[]:=by intro hh;subst hh;simp at hz
  obtain ⟨a,rfl⟩:∃ a,A=some a:=by
   cases A with
   | none=>exact absurd (hA rfl) hy0
   | some a=>exact ⟨a,rfl⟩
  obtain ⟨news,g1,g2,g3,g4⟩:=hA' a rfl;rw [hsz,Nat.mul_one] at g1;have hml:(ys.take xs.length).length=min ys.length xs.length:=by rw [List.length_take];omega
  have hcl:(news.take xs.length).length=min ys.length xs.length:=by rw [List.length_take];omega
  obtain ⟨g,cap,w',F',hv,hr,hi',hk⟩:=write_own (P:=P) hinv hsz hj 0 (ys.take xs.length) (by omega) (by omega) (news.take xs.length) (by omega) (fun i z hz=>by
   rw [List.getElem?_take] at hz
   split at hz
   ·rename_i hi
    obtain ⟨vs,k1,k2⟩:=g3 i z hz;have hl1:vs.length=1:=by rw [← k1.length,c.len,hsz]
    obtain ⟨u',rfl⟩:∃ u,vs=[u]:=List.length_eq_one_iff.1 hl1;have:=k2 0 u' rfl;rw [hsz,Nat.mul_one,Nat.add_zero] at this;exact ⟨u',by rw [List.getElem?_take,if_pos hi];exact this,k1⟩
   ·cases hz) (fun z hz=>g4 z (List.mem_of_mem_take hz))
  have e5:xs.take 0++ys.take xs.length++xs.drop (0+(ys.take xs.length).length)=ys.take xs.length++xs.drop ys.length:=by
   rw [List.take_zero,List.nil_append,Nat.zero_add,hml]
   congr 1
   rcases Nat.le_total ys.length xs.length with hle|hle
   ·rw [Nat.min_eq_left hle]
   ·rw [Nat.min_eq_right hle,List.drop_length,List.drop_of_length_le hle]
  rw [e5] at hi';refine ⟨.int .i64 ((min ys.length xs.length:Nat):Int),w',(),F',Z,?_,hi',fun _ x=>x,hk,rfl⟩;have hlc:=run_loadCells_list (P:=P) w a (news.take xs.length) (fun i u hiu=>by
   rw [List.getElem?_take] at hiu
   split at hiu
   ·exact g2 i u hiu
   ·cases hiu)
  rw [hcl] at hlc;have hmin:Nat.min ys.length xs.length=min ys.length xs.length:=rfl;simp [execOp,ho,hty,e1,e2,hv,resolve,invoke,builtin,Builtin.copy_,run_underlying ht,hs _,Builtin.lenOf,Builtin.firstCells,hmin,Sem.run_bind,hlc,hr,goInt]
theorem Gl [Inhabited T]{y u:Operand}{lo:Nat}(ht:P.underlying t=some (.slice e))(hs:SizeIs P e 1)(hsz:c.sz=1)(hy:arg fr y=some (.vwl v lo))(hj:H[j]?=some (.own t0 c v xs))(hu:arg fr u=some (.vwr v lo))(hdn:Nat.blt d n=true)
  (h:SimL P f n ops l k ((d,Ai .i64 ((min lo (xs.length-lo):Nat):Int))::fr) (H.set j (.own t0 c v (xs.take lo++xs.take (min lo (xs.length-lo))++xs.drop (lo+min lo (xs.length-lo))))) x X K):SimL P f n ops (⟨some d,.call ⟨.builtin .copy,#[y,u],#[t,t']⟩,ty,pos,aft,none⟩::l) k fr H x X K:=by
 refine ph (I:=Unit) (av:=fun _=>Ai .i64 ((min lo (xs.length-lo):Nat):Int)) (H':=fun _=>H.set j (.own t0 c v (xs.take lo++xs.take (min lo (xs.length-lo))++xs.drop (lo+min lo (xs.length-lo))))) (fun o ho hty w0 F0 Z0 w F Z ρ hinv hf=>?_) hdn (fun _=>h);obtain ⟨A,q1,m,e1,h1,h2,e2⟩:=hf (by simp [Op.operands,Call.operands]) hy;obtain ⟨A',q2,m',e3,h3,e4⟩:=hf (by simp [Op.operands,Call.operands]) hu;obtain ⟨F1,hown,_⟩:=hinv.res.at hj;obtain ⟨B,q,e5,hq⟩:=own_room hown;rw [e5] at e1 e3;simp only [Value.slice.injEq] at e1 e3;obtain ⟨rfl,rfl,rfl⟩:=e1;obtain ⟨rfl,_,rfl⟩:=e3
 by_cases hz:min lo (xs.length-lo)=0
 ·have e6:xs.take lo++xs.take (min lo (xs.length-lo))++xs.drop (lo+min lo (xs.length-lo))=xs:=by
   rw [hz,List.take_zero,List.append_nil,Nat.add_zero,List.take_append_drop]
  have hset:H.set j (.own t0 c v (xs.take lo++xs.take (min lo (xs.length-lo))++xs.drop (lo+min lo (xs.length-lo))))=H:=by
   rw [e6];apply List.ext_getElem?;intro i;rw [List.getElem?_set]
   by_cases hij:j=i
   ·subst hij;rw [if_pos rfl]
    split
    ·exact hj.symm
    ·rename_i hlt;rw [List.getElem?_eq_none (by omega)]
   ·rw [if_neg hij]
  refine ⟨.int .i64 0,w,(),F,Z,?_,by rw [hset];exact hinv,fun _ x=>x,Keep.refl _ _,by rw [hz];rfl⟩;have hmin:Nat.min lo (xs.length-lo)=0:=hz
  by_cases hm:q=lo
  ·cases B <;> simp [execOp,ho,hty,e2,e4,hm,resolve,invoke,builtin,Builtin.copy_,run_underlying ht,hs _,Builtin.lenOf,Builtin.firstCells,hmin,storeCells,Sem.run_bind,goInt,loadCells,loadCellsFrom]
   all_goals (have:Nat.min lo (xs.length-lo)=0:=hz;simp_all [storeCells,loadCells,loadCellsFrom,Sem.run_bind,goInt])
  ·cases B <;> simp [execOp,ho,hty,e2,e4,hm,resolve,invoke,builtin,Builtin.copy_,run_underlying ht,hs _,Builtin.lenOf,Builtin.firstCells,hmin,storeCells,Sem.run_bind,goInt,loadCells,loadCellsFrom]
 ·have hml:(xs.take (min lo (xs.length-lo))).length=min lo (xs.length-lo):=by rw [List.length_take];omega
  obtain ⟨g,cap,cur,hv,⟨fz,hh,hfz⟩,hcap,hmx,hsize,hF,hrows⟩:=own_cells hown (by omega);rw [hsz,Nat.mul_one] at hsize;have hcl:(cur.toList.take (min lo (xs.length-lo))).length=min lo (xs.length-lo):=by
   have hct:cur.toList.length=cur.size:=Array.length_toList;rw [List.length_take];omega
  have cellOf:∀ i z,xs[i]?=some z→∃ u,cur.toList[i]?=some u∧AllP Z w (c.e z) [u]:=fun i z hiz=>by
   have hil:i<xs.length:=(List.getElem?_eq_some_iff.1 hiz).1;obtain ⟨vs,k1,k2⟩:=hrows i z hiz;have hl1:vs.length=1:=by rw [← k1.length,c.len,hsz]
   obtain ⟨u',rfl⟩:∃ u,vs=[u]:=List.length_eq_one_iff.1 hl1;have:=k2 0 u' rfl;rw [hsz,Nat.mul_one,Nat.mul_one,Nat.add_zero,List.getElem?_take,if_pos hil] at this;exact ⟨u',this,k1⟩
  obtain ⟨g',cap',w',F',hv',hr,hi',hk⟩:=write_own (P:=P) hinv hsz hj lo (xs.take (min lo (xs.length-lo))) (by omega) (by omega) (cur.toList.take (min lo (xs.length-lo))) (by omega) (fun i z hz=>by
   rw [List.getElem?_take] at hz
   split at hz
   ·rename_i hi
    obtain ⟨u',k1,k2⟩:=cellOf i z hz;exact ⟨u',by rw [List.getElem?_take,if_pos hi];exact k1,k2⟩
   ·cases hz) (fun z hz=>by
   obtain ⟨i,hi,rfl⟩:=List.getElem_of_mem hz;have hi2:i<xs.length:=by omega
   obtain ⟨u',k1,k2⟩:=cellOf i xs[i] (List.getElem?_eq_getElem hi2);have e7:(cur.toList.take (min lo (xs.length-lo)))[i]=u':=by
    have:=List.getElem?_eq_getElem hi;rw [List.getElem?_take,if_pos (by omega),k1] at this;exact (Option.some.inj this).symm
   rw [e7];exact k2.oneL (c.one _) u' (.head _))
  rw [hv] at hv';cases hv';rw [hml] at hi';rw [hv] at e5;cases e5;refine ⟨.int .i64 ((min lo (xs.length-lo):Nat):Int),w',(),F',Z,?_,hi',fun _ x=>x,hk,rfl⟩;have hlc:=run_loadCells_list (P:=P) w ⟨g,0,none⟩ (cur.toList.take (min lo (xs.length-lo))) (fun i u hiu=>by
   rw [Addr.add_lit,cell_of_row w g _ cur t0 fz hh];rw [List.getElem?_take] at hiu
   split at hiu
   ·simpa using hiu
   ·cases hiu)
  rw [hcl] at hlc;have hne:q≠lo:=by omega
  have hmin:Nat.min lo (xs.length-lo)=min lo (xs.length-lo):=rfl;have hadd:(⟨g,0,none⟩:Addr).add lo=⟨g,lo,none⟩:=by rw [Addr.add_lit,Nat.zero_add]
  simp [execOp,ho,hty,e2,e4,hne,resolve,invoke,builtin,Builtin.copy_,run_underlying ht,hs _,Builtin.lenOf,Builtin.firstCells,hmin,Sem.run_bind,hlc,hadd,hr,goInt]
def Res.qu {T:Type}(t:TypeId)(c:Co T)(v:Value)(xs:List T):Res :=
 ⟨fun Z w F=>(∃ g o cap,∃ cur:Array Value,v = .slice (some ⟨g,o,none⟩) xs.length cap∧RowAt w g cur t∧xs.length≤cap∧cap≤maxLen∧o+cap=cur.size∧F g∧∀ (i:Nat) (x:T),xs[i]?=some x→∃ u,cur.toList[o+i]?=some u∧AllP Z w (c.e x) [u])∨(xs=[]∧∃ A,v = .slice A 0 0),
  fun hz hk h=>h.imp (fun ⟨g,o,cap,cur,h1,⟨fz,h2,h2'⟩,h3,h4,h5,h6,h7⟩=>⟨g,o,cap,cur,h1,⟨fz,(hk g (.inr h6)).trans h2,h2'⟩,h3,h4,h5,h6,fun i x hx=>let ⟨u,a,b⟩:=h7 i x hx;⟨u,a,b.st hz fun b hb=>hk b (.inl hb)⟩⟩) id⟩
theorem qu_of_own {Z F:Nat→Prop}{w:World}(hsz:c.sz=1)(h:(Res.own t0 c v xs).h Z w F):(Res.qu t0 c v xs).h Z w F:=by
 obtain ⟨cs,⟨hl,ho⟩,hb,hr⟩|h:=h
 ·rcases ho with ⟨hv,hn⟩|⟨g,cap,cur,hv,hg,hrow,hcap,hm,hcs,htk⟩
  ·exact .inr ⟨List.length_eq_zero_iff.1 hn,none,by rw [hv]⟩
  ·rw [hsz,Nat.mul_one] at hcs htk;refine .inl ⟨g,0,cap,cur,hv,hrow,hcap,hm,by omega,hb g (by rw [hv];rfl),fun i x hx=>?_⟩;have hil:i<xs.length:=(List.getElem?_eq_some_iff.1 hx).1;obtain ⟨vs,k1,k2⟩:=hr i x hx;have hl1:vs.length=1:=by rw [← k1.length,c.len,hsz]
   obtain ⟨u',rfl⟩:∃ u,vs=[u]:=List.length_eq_one_iff.1 hl1;have:=k2 0 u' rfl;rw [hsz,Nat.mul_one,Nat.add_zero,← htk,List.getElem?_take,if_pos hil] at this;exact ⟨u',by rw [Nat.zero_add];exact this,k1⟩
 ·exact .inr h
theorem sQue {todo:List Item}(j:Nat)(hsz:c.sz=1)(hj:H[j]?=some (.own t0 c v xs))(h:Sim P f n todo fr (H.set j (.qu t0 c v xs)) x X K):Sim P f n todo fr H x X K:=Li j hj (fun _ _ _=>qu_of_own hsz) h
theorem qu_sv {Z F:Nat→Prop}{w:World}(h:(Res.qu t0 c v xs).h Z w F):∃ A m,v = .slice A xs.length m:=by
 obtain ⟨g,o,cap,cur,hv,_⟩|⟨rfl,A,rfl⟩:=h
 ·exact ⟨_,_,hv⟩
 ·exact ⟨A,0,rfl⟩
theorem an {y:Operand}(ht:P.underlying t=some (.slice e))(hy:arg fr y=some (.sv v))(hj:H[j]?=some (.qu t0 c v xs)):D P n H (.call ⟨.builtin .len,#[y],#[t]⟩) ty fr (Ai .i64 xs.length) :=
 .of fun o ho hty w Z F ρ hH hf=>by
  obtain ⟨h1,_⟩:=hf (by simp [Op.operands,Call.operands]) hy;obtain ⟨F1,h,_⟩:=hH.at hj;obtain ⟨A,m,e1⟩:=qu_sv h;rw [e1] at h1;exact ⟨.int .i64 xs.length,by simp [execOp,ho,h1,resolve,invoke,builtin,Builtin.len_,run_underlying ht,goInt,Sem.run_bind],rfl⟩
theorem Wl {y z:Operand}{kd:IntKind}{i:Int}(ht:P.underlying t=some (.slice e))(hsz:SizeIs P e c.sz)(hy:arg fr y=some (.sv v))(hj:H[j]?=some (.qu t0 c v xs))(hz:arg fr z=some (Ai kd i))(h0:0≤i)(h1:i<xs.length):D P n H (.indexAddr t y z) ty fr (.ep v (i.toNat*c.sz)) :=
 .of fun o ho hty w Z F ρ hH hf=>by
  obtain ⟨e1,_⟩:=hf (by simp [Op.operands]) hy;have e2:ρ z=_:=hf (by simp [Op.operands]) hz;obtain ⟨F1,h,_⟩:=hH.at hj;obtain ⟨g,of,cap,cur,hv,_⟩|⟨rfl,A,rfl⟩:=h
  ·rw [hv] at e1;refine ⟨.pointer (some ((⟨g,of,none⟩:Addr).add (i.toNat*c.sz))),?_,_,_,_,hv,rfl⟩;simp [execOp,ho,e1,e2,Instr.indexAt,run_underlying ht,hsz _,Sem.run_bind,asIntOf,h0,h1]
  ·simp at h1;omega
theorem Ml [Inhabited T]{y:Operand}{m:Nat}{a:AV}(i:Int)(hg:IsAgg P t false)(hsz:c.sz=1)(hy:arg fr y=some (.ep v m))(hj:H[j]?=some (.qu t0 c v xs))(hm:m=i.toNat*c.sz)(h0:0≤i)(h1:i<xs.length)(ha:(c.e (rd xs i))[0]?=some a):D P n H (.load t y) ty fr a :=
 .of fun o ho hty w Z F ρ hH hf=>by
  obtain ⟨ad,q,c',e1,e2⟩:=hf (by simp [Op.operands]) hy;obtain ⟨F1,h,_⟩:=hH.at hj;obtain ⟨g,of,cap,cur,hv,⟨fz,hh,_⟩,_,_,_,_,h7⟩|⟨rfl,A,rfl⟩:=h
  ·rw [hv] at e1;simp at e1;obtain ⟨rfl,_,_⟩:=e1;obtain ⟨u,h3,h4⟩:=h7 i.toNat _ (rd_get h0 h1);obtain ⟨u',hu,hp⟩:=h4.get ha;simp at hu;subst hu;exact ⟨u,by simp [execOp,ho,e2,load_one (a:=(⟨g,of,none⟩:Addr).add m) (v:=u) hg (by rw [Addr.add_lit,cell_of_row _ _ _ _ _ _ hh,hm,hsz,Nat.mul_one];simpa using h3),Sem.run_bind],hp⟩
  ·simp at h1;omega
theorem fm {y a:Operand}{ka:IntKind}{i:Int}(ht:P.underlying t=some (.slice e))(hs:SizeIs P e 1)(hy:arg fr y=some (.sv v))(hj:H[j]?=some (.qu t0 c v xs))(ha:arg fr a=some (Ai ka i))(h0:0≤i)(h1:i≤xs.length)(hdn:Nat.blt d n=true)
  (h:∀ v',SimL P f n ops l k ((d,.sv v')::fr) (H.set j (.qu t0 c v' (xs.drop i.toNat))) x X K):SimL P f n ops (⟨some d,.slice t y (some a) none none,ty,pos,aft,none⟩::l) k fr H x X K:=by
 refine ph (I:=Value) (fun o ho hty w0 F0 Z0 w F Z ρ hinv hf=>?_) hdn h;obtain ⟨e1,_⟩:=hf (by simp [Op.operands]) hy;have e2:ρ a=_:=hf (by simp [Op.operands]) ha;obtain ⟨F1,hq,_⟩:=hinv.res.at hj;have hr:∃ v',(Instr.sliceAt t v (some (.int ka i)) none none).run P w = .ok v' w∧(∃ A n m,v' = .slice A n m)∧∀ G,(Res.qu t0 c v xs).h Z w G→(Res.qu t0 c v' (xs.drop i.toNat)).h Z w G:=by
  obtain ⟨A,m,hv⟩:=qu_sv hq;refine ⟨.slice (if m=i.toNat then A else A.map (·.add i.toNat)) (xs.length-i.toNat) (m-i.toNat),?_,⟨_,_,_,rfl⟩,fun G hG=>?_⟩
  ·rw [hv];simp [Instr.sliceAt,Instr.slice,Instr.sliceBounds,Instr.sliceBound,run_underlying ht,hs _,Sem.run_bind,asIntOf,h0,h1]
  ·obtain ⟨g,of,cap,cur,hv',hrow,hcap,hmx,hsize,hF,h7⟩|⟨rfl,B,hv'⟩:=hG
   ·rw [hv] at hv';cases hv';have hlen:(xs.drop i.toNat).length=xs.length-i.toNat:=by simp
    by_cases hm:m=i.toNat
    ·refine .inr ⟨List.drop_eq_nil_of_le (by omega),some ⟨g,of,none⟩,?_⟩;rw [if_pos hm];have:xs.length-i.toNat=0:=by omega
     rw [this];congr 1;omega
    ·refine .inl ⟨g,of+i.toNat,m-i.toNat,cur,?_,hrow,by rw [hlen];omega,by omega,by omega,hF,fun q z hz=>?_⟩
     ·rw [if_neg hm,hlen];simp [Addr.add_lit]
     ·rw [List.getElem?_drop] at hz;obtain ⟨u,k1,k2⟩:=h7 _ z hz;exact ⟨u,by rw [← k1];congr 1;omega,k2⟩
   ·rw [hv] at hv';cases hv';have h9:i.toNat=0:=by simp only [List.length_nil] at h1;omega
    refine .inr ⟨by simp,A,?_⟩;rw [h9];rfl
 obtain ⟨v',hr1,hsl,hr2⟩:=hr;obtain ⟨F',hi',hk⟩:=hinv.turn (w':=w) (r':=.qu t0 c v' (xs.drop i.toNat)) hj fun G hG _=>⟨G,Step.refl _ _,hr2 G hG,fun _ y=>.inl y⟩
 exact ⟨v',w,v',F',Z,by simp [execOp,ho,e1,e2,hr1,Sem.run_bind],hi',fun _ y=>y,hk,rfl,hsl⟩
theorem sApU {y u:Operand}{ys:List T}{z:Value}{bytes:Nat}(hsz:c.sz=1)(ht:P.underlying t=some (.slice e))(hinfo:Info P e z c.sz bytes)(hzs:z.cells.size=c.sz)(hy:arg fr y=some (.sv v))(hj:H[j]?=some (.qu e c v xs))(hu:arg fr u=some (.fsl c ys))(hys:ys≠[])(hb:(xs.length+ys.length)*bytes≤140737488355328)(hb0:Nat.blt 0 bytes=true)(hdn:Nat.blt d n=true)
  (h:∀ v',SimL P f n ops l k ((d,.sv v')::fr) (H.set j (.qu e c v' (xs++ys))) x X K):SimL P f n ops (⟨some d,.call ⟨.builtin .append,#[y,u],#[t,t]⟩,ty,pos,aft,none⟩::l) k fr H x X K:=by
 refine ph (I:=Value) (fun o ho hty w0 F0 Z0 w F Z ρ hinv hf=>?_) hdn h;obtain ⟨e1,_⟩:=hf (by simp [Op.operands,Call.operands]) hy;obtain ⟨A,m,e2,hA,hA'⟩:=cells_fsl (hf (by simp [Op.operands,Call.operands]) hu);obtain ⟨a,rfl⟩:∃ a,A=some a:=by
  cases A with
  | none=>exact absurd (hA rfl) hys
  | some a=>exact ⟨a,rfl⟩
 obtain ⟨news,g1,g2,g3,g4⟩:=hA' a rfl;obtain ⟨F1,hq,_⟩:=hinv.res.at hj;obtain ⟨i,i1,i2,i3,i4⟩:=hinfo.parts;have hb0':0<bytes:=by simpa [Nat.blt_eq] using hb0
 have hle:(xs.length+ys.length)*1≤(xs.length+ys.length)*bytes:=Nat.mul_le_mul_left _ hb0';have hyl:0<ys.length:=List.length_pos_iff.2 hys;have newOf:∀ (q:Nat) (z:T),ys[q]?=some z→∃ u,news[q]?=some u∧AllP Z w (c.e z) [u]:=fun q z hz=>by
  obtain ⟨vs,k1,k2⟩:=g3 q z hz;have hl1:vs.length=1:=by rw [← k1.length,c.len,hsz]
  obtain ⟨u',rfl⟩:∃ u,vs=[u]:=List.length_eq_one_iff.1 hl1;have:=k2 0 u' rfl;rw [hsz,Nat.mul_one,Nat.add_zero] at this;exact ⟨u',this,k1⟩
 have g1':news.length=ys.length:=by rw [g1,hsz,Nat.mul_one]
 have grown:∀ (vs:List Value) (cap:Nat) (B:Addr),vs.length=xs.length→(∀ j u,vs[j]?=some u→w.cell? (B.add j)=some u)→xs.length≤cap→¬ xs.length+ys.length≤cap→(∀ (q:Nat) (z:T),xs[q]?=some z→∃ u,vs[q]?=some u∧AllP Z w (c.e z) [u])→v = .slice (some B) xs.length cap →
   ∃ v' w' F',(Builtin.append_ #[t,t] ty #[v,.slice (some a) ys.length m]).run P w = .ok v' w'∧Inv w0 w' F0 Z0 F' Z (H.set j (.qu e c v' (xs++ys)))∧Keep Z w w'∧∃ A n m,v' = .slice A n m:=by
  intro vs cap B hvl holds hcap hroom hvs hv;have hr:=run_append_grow (P:=P) w t ty e i z ht i1 i2 B xs.length cap vs (by rw [i3,hsz];omega) holds a ys.length m news (by rw [i3,hsz];omega) g2 (by omega) (by omega) (growslice_fits (by omega) (by rw [i4];exact hb));rw [← hv] at hr;have hge:=grownCap_ge w (xs.length+ys.length) cap e;have hcm:=grownCap_le_maxLen w (xs.length+ys.length) cap e (by rw [mx];omega);obtain ⟨F',hi',hk⟩:=hinv.turn (w':=w.drew.alloc (.cells (vs.toArray++news.toArray++Builtin.zeroCells z.cells (grownCap w (xs.length+ys.length) cap e-(xs.length+ys.length))) e)) (r':=.qu e c (.slice (some ⟨w.heap.size,0,none⟩) (xs.length+ys.length) (grownCap w (xs.length+ys.length) cap e)) (xs++ys)) hj fun G hG hz1=>by
   have s:Step w (w.drew.alloc (.cells (vs.toArray++news.toArray++Builtin.zeroCells z.cells (grownCap w (xs.length+ys.length) cap e-(xs.length+ys.length))) e)) G:=⟨rfl,rfl,rfl,Nat.le_succ _,by simp,fun b hb _=>Below.heap_alloc w.drew _ b hb⟩
   have hkz:Keep Z w (w.drew.alloc (.cells (vs.toArray++news.toArray++Builtin.zeroCells z.cells (grownCap w (xs.length+ys.length) cap e-(xs.length+ys.length))) e)):=fun b hz=>s.keep b (hz1 b hz).1 (hz1 b hz).2
   refine ⟨fun b=>b=w.heap.size,s,.inl ⟨w.heap.size,0,_,_,by rw [List.length_append],.new (heap_alloc_new w.drew _),by rw [List.length_append];exact hge,hcm,?_,rfl,fun q z hz=>?_⟩,fun b hb=>.inr (by subst hb;exact ⟨Nat.le_refl _,by simp⟩)⟩
   ·simp only [Array.size_append,List.size_toArray,size_zeroCells,hzs,hsz,Nat.mul_one,hvl,g1'];omega
   ·rw [Nat.zero_add];simp only [Array.toList_append];rw [List.append_assoc]
    by_cases hlt:q<xs.length
    ·rw [List.getElem?_append_left hlt] at hz;obtain ⟨u,k1,k2⟩:=hvs q z hz;exact ⟨u,by rw [List.getElem?_append_left (by omega)];exact k1,k2.st (fun _ y=>y) hkz⟩
    ·rw [List.getElem?_append_right (by omega)] at hz;obtain ⟨u,k1,k2⟩:=newOf _ z hz;have hq2:q-xs.length<ys.length:=(List.getElem?_eq_some_iff.1 hz).1;exact ⟨u,by rw [List.getElem?_append_right (by omega),hvl,List.getElem?_append_left (by omega)];exact k1,k2.st (fun _ y=>y) hkz⟩
  exact ⟨_,_,F',hr,hi',hk,_,_,_,rfl⟩
 have main:∃ v' w' F',(Builtin.append_ #[t,t] ty #[v,.slice (some a) ys.length m]).run P w = .ok v' w'∧Inv w0 w' F0 Z0 F' Z (H.set j (.qu e c v' (xs++ys)))∧Keep Z w w'∧∃ A n m,v' = .slice A n m:=by
  obtain ⟨g,of,cap,cur,hv,⟨fz,hh,hfz⟩,hcap,hmx,hsize,hF,h7⟩|⟨rfl,B,hv⟩:=id hq
  ·by_cases hroom:xs.length+ys.length≤cap
   ·have hf:=run_firstCells_some (P:=P) w i.size ys.length a ys.length m news (by rw [i3,hsz];omega) g2;have hst:=run_storeCells_fz (P:=P) g (of+xs.length) e fz news 0 cur w hh hfz (by omega) g4;simp only [Nat.add_zero] at hst;have hr:(Builtin.append_ #[t,t] ty #[v,.slice (some a) ys.length m]).run P w = .ok (.slice (some ⟨g,of,none⟩) (xs.length+ys.length) cap) (w.setRow g (cur.toList.take (of+xs.length)++news++cur.toList.drop (of+xs.length+news.length)).toArray):=by
     have hsz1:i.size=1:=by rw [i3,hsz]
     rw [hv];rw [hsz1] at hf;simp [Builtin.append_,run_underlying ht,sizeOf,typeInfo,i1,Builtin.lenOf,hroom,hf,Addr.add_lit,hst,hsz1]
    have hsame:(cur.toList.take (of+xs.length)++news++cur.toList.drop (of+xs.length+news.length)).toArray.size=cur.size:=by
     have hct:cur.toList.length=cur.size:=Array.length_toList;simp only [List.size_toArray,List.length_append,List.length_take,List.length_drop];omega
    obtain ⟨F',hi',hk⟩:=hinv.turn (w':=w.setRow g (cur.toList.take (of+xs.length)++news++cur.toList.drop (of+xs.length+news.length)).toArray) (r':=.qu e c (.slice (some ⟨g,of,none⟩) (xs.length+ys.length) cap) (xs++ys)) hj fun G hG hz1=>by
     have hFG:G g:=by
      obtain ⟨g',of',cap',cur',hv',_,_,_,_,hF',_⟩|⟨hx,B,hv'⟩:=hG
      ·rw [hv] at hv';cases hv';exact hF'
      ·rw [hv] at hv';simp only [Value.slice.injEq] at hv';omega
     have s:=Step.setRow w g (cur.toList.take (of+xs.length)++news++cur.toList.drop (of+xs.length+news.length)).toArray G hFG;have hkz:Keep Z w (w.setRow g (cur.toList.take (of+xs.length)++news++cur.toList.drop (of+xs.length+news.length)).toArray):=fun b hz=>s.keep b (hz1 b hz).1 (hz1 b hz).2
     refine ⟨G,s,.inl ⟨g,of,cap,_,by rw [List.length_append],⟨fz,setRow_heap w g cur _ e _ hh,by rw [hsame];exact hfz⟩,by rw [List.length_append];exact hroom,hmx,by rw [hsame];exact hsize,hFG,fun q z hz=>?_⟩,fun _ y=>.inl y⟩;have hct:cur.toList.length=cur.size:=Array.length_toList
     by_cases hlt:q<xs.length
     ·rw [List.getElem?_append_left hlt] at hz;obtain ⟨u,k1,k2⟩:=h7 q z hz;refine ⟨u,?_,k2.st (fun _ y=>y) hkz⟩;show (cur.toList.take (of+xs.length)++_++_)[of+q]?=_;rw [List.append_assoc,List.getElem?_append_left (by rw [List.length_take];omega),List.getElem?_take,if_pos (by omega)];exact k1
     ·rw [List.getElem?_append_right (by omega)] at hz;obtain ⟨u,k1,k2⟩:=newOf _ z hz;have hq2:q-xs.length<ys.length:=(List.getElem?_eq_some_iff.1 hz).1;refine ⟨u,?_,k2.st (fun _ y=>y) hkz⟩;show (cur.toList.take (of+xs.length)++_++_)[of+q]?=_;rw [List.append_assoc];have hl4:(cur.toList.take (of+xs.length)).length=of+xs.length:=by rw [List.length_take];omega
      rw [List.getElem?_append_right (by omega),hl4,List.getElem?_append_left (by omega),← k1];congr 1;omega
    exact ⟨_,_,F',hr,hi',hk,_,_,_,rfl⟩
   ·have hct:cur.toList.length=cur.size:=Array.length_toList;refine grown ((cur.toList.drop of).take xs.length) cap ⟨g,of,none⟩ (by rw [List.length_take,List.length_drop];omega) (fun q u hu=>?_) hcap hroom (fun q z hz=>?_) hv
    ·rw [List.getElem?_take] at hu
     split at hu
     ·rw [List.getElem?_drop] at hu;rw [Addr.add_lit,cell_of_row w g _ cur e fz hh];simpa using hu
     ·cases hu
    ·obtain ⟨u,k1,k2⟩:=h7 q z hz;have hq2:q<xs.length:=(List.getElem?_eq_some_iff.1 hz).1;exact ⟨u,by rw [List.getElem?_take,if_pos hq2,List.getElem?_drop];exact k1,k2⟩
  ·
   cases B with
   | some B=>exact grown [] 0 B rfl (by simp) (Nat.le_refl _) (by simp only [List.length_nil] at *;omega) (by simp) hv
   | none =>
    have hr:=run_append_nil (P:=P) w t ty e i z ht i1 i2 a ys.length m news (by rw [i3,hsz];omega) g2 (by omega) (by omega) (by rw [i4];simp only [List.length_nil,Nat.zero_add] at hb;omega);subst hv;have hge:=grownCap_ge w (0+ys.length) 0 e;have hcm:=grownCap_le_maxLen w (0+ys.length) 0 e (by rw [mx];omega);obtain ⟨v',w',r1,r2,r3,r5⟩:=run_append_row (P:=P) w t ty e i z c.sz bytes ht i1 i2 i3 i4 hzs c.pos (.slice none 0 0) 0 [] ⟨by simp,.inl ⟨rfl,rfl⟩⟩ a ys.length m news g1 g2 g4 (by rw [mx];omega) (by simpa using hb);obtain ⟨F',hi',hk⟩:=hinv.turn (w':=w') (r':=.qu e c v' ([]++ys)) hj fun G hG hz1=>by
     have s:=Step.of_grown r3 (run_drawn _ r1) G (by intro k hk;cases hk);have hkz:Keep Z w w':=fun b hz=>s.keep b (hz1 b hz).1 (hz1 b hz).2
     refine ⟨fun b=>w.heap.size≤b∧b<w'.heap.size,s,qu_of_own hsz (.inl ⟨[]++news,by simpa using r2,fun b hb=>?_,?_⟩),fun b hb=>.inr hb⟩
     ·rcases r5 with e5|e5
      ·rw [e5] at hb;cases hb
      ·rw [e5] at hb;cases hb;refine ⟨Nat.le_refl _,?_⟩;rcases r2.2 with ⟨hv,_⟩|⟨g,cap,cur,hv,_,hh,_⟩
       ·rw [hv] at e5;cases e5
       ·rw [hv] at e5;simp [Value.ownBlock] at e5;subst e5;obtain ⟨fz,hh,_⟩:=hh;exact (Array.getElem?_eq_some_iff.1 hh).1
     ·simpa using g3.st (fun _ y=>y) hkz
    refine ⟨v',w',F',r1,hi',hk,?_⟩;rcases r2.2 with ⟨hv,_⟩|⟨g,cap,cur,hv,_⟩
    ·exact ⟨_,_,_,hv⟩
    ·exact ⟨_,_,_,hv⟩
 obtain ⟨v',w',F',hr,hi',hk,hsl⟩:=main;exact ⟨v',w',v',F',Z,by simp [execOp,ho,hty,e1,e2,hr,resolve,invoke,builtin,Sem.run_bind],hi',fun _ y=>y,hk,rfl,hsl⟩
def Res.ownN {T:Type}(t:TypeId)(c:Co T)(v:Value)(xs:List T):Res :=
 ⟨fun Z w F=>(Res.own t c v xs).h Z w F∧(xs=[]→v = .slice none 0 0),fun hz hk h=>⟨Res.st _ hz hk h.1,h.2⟩⟩
theorem wm {todo:List Item}(u:Nat)(e:TypeId)(c:Co T)(hu:look fr u=some (.lit (.slice none 0 0)))(h:∀ v,Sim P f n todo ((u,.sv v)::fr) (.ownN e c v []::H) x X K):Sim P f n todo fr H x X K:=by
 intro r hr w0 F0 Z0 w F Z tmps hn hi hf;refine h (.slice none 0 0) r hr w0 F0 Z0 w F Z tmps hn ?_ fun t a ht=>?_
 ·refine ⟨hi.base,hi.z0,hi.zin,hi.fin,fun _=>False,F,⟨.inr ⟨rfl,none,rfl⟩,fun _=>rfl⟩,hi.res,fun b hb=>hb.elim,fun b hb=>hb⟩
 ·simp only [look] at ht
  by_cases e:u=t
  ·subst e;simp at ht;subst ht;exact ⟨hf u _ hu,_,_,_,rfl⟩
  ·have:(u == t)=false:=by simpa using e
   rw [this] at ht;exact hf t a (by simpa using ht)
theorem rm {todo:List Item}(j:Nat)(hj:H[j]?=some (.own t0 c v xs))(hx:xs≠[])(h:Sim P f n todo fr (H.set j (.ownN t0 c v xs)) x X K):Sim P f n todo fr H x X K:=Li (r':=.ownN t0 c v xs) j hj (fun _ _ _ h=>⟨h,fun e=>absurd e hx⟩) h
theorem zm {todo:List Item}(j:Nat)(hj:H[j]?=some (.ownN t0 c v xs))(h:Sim P f n todo fr (H.set j (.own t0 c v xs)) x X K):Sim P f n todo fr H x X K:=Li j hj (fun _ _ _ h=>h.1) h
theorem flOwnN {t:TypeId}{c:Co T}{xs:List T}(h:∀ x,FlatL (c.e x)):FlatR (.ownN t c v xs):=fun Z Z' w F hr=>⟨flOwn h Z Z' w F hr.1,hr.2⟩
theorem ownN_nil {Z F:Nat→Prop}{w:World}(h:(Res.ownN t0 c v xs).h Z w F):∃ A m,v = .slice A xs.length m∧A.isNone=decide (xs=[]):=by
 obtain ⟨h1,h2⟩:=h
 by_cases hx:xs=[]
 ·rw [h2 hx,hx];exact ⟨none,0,rfl,by simp⟩
 ·obtain ⟨g,cap,cur,hv,_⟩:=own_cells h1 (List.length_pos_iff.2 hx);exact ⟨_,_,hv,by simp [hx]⟩
theorem run_eqIn_nil (w:World)(d:Nat){A:Option Addr}{m q:Nat}(ht:P.underlying t=some (.slice e)):(Op.equalIn (d+1) t (.slice A m q) (.slice none 0 0)).run P w = .ok A.isNone w:=by
 cases A <;> simp [Op.equalIn,run_underlying ht]
theorem neq_nil {A:Option Addr}{m q:Nat}{w:World}(ht:P.underlying t=some (.slice e)):(binOp .neq t (.slice A m q) (.slice none 0 0)).run P w = .ok (.bool (!A.isNone)) w:=by
 simp only [binOp,Op.equal,Op.maxDepth,Sem.run_bind,run_eqIn_nil w 9999 ht,Result.andThen_ok,Sem.run_pure]
theorem dNeN {y:Operand}{t':TypeId}(ht:P.underlying t=some (.slice e))(hy:arg fr y=some (.sv v))(hj:H[j]?=some (.ownN t0 c v xs)):D P n H (.binOp .neq t y (.const (.slice none 0 0)) t') ty fr (Ab (decide (xs≠[]))) :=
 .of fun o ho hty w Z F ρ hH hf=>by
  obtain ⟨e1,_⟩:=hf (by simp [Op.operands]) hy;have e2:ρ (.const (.slice none 0 0))=_:=hf (a:=.lit (.slice none 0 0)) (by simp [Op.operands]) rfl;obtain ⟨F1,h,_⟩:=hH.at hj;obtain ⟨A,m,hv,hA⟩:=ownN_nil h;rw [hv] at e1;exact ⟨.bool (decide (xs≠[])),by simp [execOp,ho,e1,e2,neq_nil ht,hA,Sem.run_bind,eqGuard],rfl⟩
theorem zk {a b:Code}(h:Sim P f n (.code b::k) fr H x X K):Sim P f n (.code (.cond (.const (.bool false)) a b)::k) fr H x X K:=fun r hr w0 F0 Z0 w F Z tmps hn hi hf=>.cond (t:=false) rfl (h r hr w0 F0 Z0 w F Z tmps hn hi hf)
end
end S
namespace S
open Go.RowKit
variable {H:List Res}
theorem lendB {b:Nat}{cs bs:List AV}(j:Nat)(hj:H[j]?=some (.box b cs))(h:LendL H cs bs){Z F:Nat→Prop}{w:World}{u:Value}(hH:HAll H Z w F)(hp:(AV.lit (.pointer (some ⟨b,0,none⟩))).p Z w u):(AV.fptr bs).p (fun b=>Z b∨F b) w u:=by
 obtain ⟨F1,⟨hb,vs,t',h1,h2⟩,hF⟩:=hH.at hj;rw [show u=_ from hp];exact ⟨_,rfl,.inr (hF _ hb),vs,lend_ok h hH h2,fun i u hu=>by rw [Addr.add_lit,cell_of_row _ _ _ _ _ _ h1];simpa using hu⟩
section
variable {P:Program}{n:Nat}{ty t t' e:TypeId}{fr:Fr}
def PtrN (a:AV)(q:Bool):Prop:=∀ Z w v,a.p Z w v→∃ A:Option Addr,v = .pointer A∧A.isNone=q
theorem pnBox {x:Addr}:PtrN (.lit (.pointer (some x))) false:=fun _ _ _ h=>⟨_,h,rfl⟩
theorem pnNil:PtrN (.lit (.pointer none)) true:=fun _ _ _ h=>⟨_,h,rfl⟩
theorem pnF {aS:List AV}:PtrN (.fptr aS) false:=fun _ _ _ ⟨a,h,_⟩=>⟨_,h,rfl⟩
theorem run_eqIn_np (w:World)(d:Nat){A:Option Addr}(ht:P.underlying t=some (.pointer e)):(Op.equalIn (d+1) t (.pointer A) (.pointer none)).run P w = .ok A.isNone w:=by
 cases A <;> simp [Op.equalIn,run_underlying ht]
theorem Qi {y:Operand}{a:AV}{q:Bool}(ht:P.underlying t=some (.pointer e))(hy:arg fr y=some a)(hq:PtrN a q):D P n H (.binOp .eql t y (.const (.pointer none)) t') ty fr (Ab q) :=
 .of fun o ho hty w Z F ρ hH hf=>by
  obtain ⟨A,e1,hA⟩:=hq _ _ _ (hf (by simp [Op.operands]) hy);have e2:ρ (.const (.pointer none))=_:=hf (a:=.lit (.pointer none)) (by simp [Op.operands]) rfl;have e3:(binOp .eql t (.pointer A) (.pointer none)).run P w = .ok (.bool A.isNone) w:=by simp only [binOp,Op.equal,Op.maxDepth,Sem.run_bind,run_eqIn_np w 9999 ht,Result.andThen_ok,Sem.run_pure]
  exact ⟨.bool q,by simp [execOp,ho,e1,e2,e3,hA,Sem.run_bind,eqGuard],rfl⟩
theorem qn {y:Operand}{a:AV}{q:Bool}(ht:P.underlying t=some (.pointer e))(hy:arg fr y=some a)(hq:PtrN a q):D P n H (.binOp .neq t y (.const (.pointer none)) t') ty fr (Ab (!q)) :=
 .of fun o ho hty w Z F ρ hH hf=>by
  obtain ⟨A,e1,hA⟩:=hq _ _ _ (hf (by simp [Op.operands]) hy);have e2:ρ (.const (.pointer none))=_:=hf (a:=.lit (.pointer none)) (by simp [Op.operands]) rfl;have e3:(binOp .neq t (.pointer A) (.pointer none)).run P w = .ok (.bool (!A.isNone)) w:=by simp only [binOp,Op.equal,Op.maxDepth,Sem.run_bind,run_eqIn_np w 9999 ht,Result.andThen_ok,Sem.run_pure]
  exact ⟨.bool (!q),by simp [execOp,ho,e1,e2,e3,hA,Sem.run_bind,eqGuard],rfl⟩
end
section
variable {P:Program}{f:FuncId}{n:Nat}{ops:Array Oper}{l:List Oper}{k:List Item}{fr:Fr}{ρ R:Type}{x:Option ρ}{X:ρ→Option R}{K:R→AV→List Res→Prop}{ty t e:TypeId}{d:Nat}{pos:String}{aft:Array Edge}{T:Type}{c:Co T}
theorem Qk {u:Operand}{ys:List T}{z:Value}{bytes:Nat}(ht:P.underlying t=some (.slice e))(hinfo:Info P e z c.sz bytes)(hzs:z.cells.size=c.sz)(hu:arg fr u=some (.fsl c ys))(hb:ys.length*bytes≤140737488355328)(hb0:Nat.blt 0 bytes=true)(hdn:Nat.blt d n=true)
  (h:∀ v',SimL P f n ops l k ((d,.sv v')::fr) (.own e c v' ys::H) x X K):SimL P f n ops (⟨some d,.call ⟨.builtin .append,#[.const (.slice none 0 0),u],#[t,t]⟩,ty,pos,aft,none⟩::l) k fr H x X K:=by
 refine ph (I:=Value) (fun o ho hty w0 F0 Z0 w F Z ρ hinv hf=>?_) hdn h;have e1:ρ (.const (.slice none 0 0))=_:=hf (a:=.lit (.slice none 0 0)) (by simp [Op.operands,Call.operands]) rfl;have e2:=cells_fsl (hf (by simp [Op.operands,Call.operands]) hu);have hinv':Inv w0 w F0 Z0 F Z (.own e c (.slice none 0 0) ([]:List T)::H):=⟨hinv.base,hinv.z0,hinv.zin,hinv.fin,fun _=>False,F,.inr ⟨rfl,none,rfl⟩,hinv.res,fun b hb=>hb.elim,fun b hb=>hb⟩
 obtain ⟨v',w',F',hr,hi',hk,hsl⟩:=append_own (ty:=ty) (j:=0) hinv' ht hinfo hzs rfl e2 (by simpa using hb) (by simpa [Nat.blt_eq] using hb0);rw [List.nil_append,List.set_cons_zero] at hi';exact ⟨v',w',v',F',Z,by simp [execOp,ho,hty,e1,hr,resolve,invoke,builtin,Sem.run_bind],hi',fun _ x=>x,hk,rfl,hsl⟩
end
end S
namespace S
open Go.RowKit
structure Tg (T:Type) where
 G:Type
 t:TypeId
 c:Co (T×G)
 q:Co T
 ch:T→G→List Res
 sz:q.sz=c.sz
 fz:∀ {x:T} {u:G} {Z F:Nat→Prop} {w:World} {vs:List Value},HAll (ch x u) Z w F→AllP Z w (c.e (x,u)) vs→AllP (fun b=>Z b∨F b) w (q.e x) vs
def Res.kidsG {T G:Type}(ch:T→G→List Res)(xs:List T)(us:List G)(o:Option Nat):Res :=
 ⟨fun Z w F=>∃ Fs:Nat→Nat→Prop,(∀ k x u,xs[k]?=some x→us[k]?=some u→o≠some k→HAll (ch x u) Z w (Fs k))∧(∀ k b,Fs k b→F b)∧∀ k k' b,Fs k b→Fs k' b→k=k',
  fun hz hk ⟨Fs,h1,h2,h3⟩=>⟨Fs,fun k x u hx hu ho=>(h1 k x u hx hu ho).st hz (fun b hb=>hk b (hb.imp id (h2 k b))),h2,h3⟩⟩
def told {G:Type}(us:List G):Option (Int×G)→List G
 | none=>us
 | some p=>us.set p.1.toNat p.2
def holeG {G:Type}(o:Option (Int×G)):Option Nat:=o.map fun p=>p.1.toNat
theorem told_len {G:Type}{us:List G}{o:Option (Int×G)}:(told us o).length=us.length:=by cases o <;> simp [told]
def Res.trg {T:Type}(D:Tg T)(v:Value)(xs:List T)(us:List D.G)(o:Option (Int×D.G)):Res :=
 ⟨fun Z w F=>us.length=xs.length∧∃ F1 F2:Nat→Prop,(Res.own D.t D.c v (xs.zip (told us o))).h Z w F1∧(Res.kidsG D.ch xs us (holeG o)).h Z w F2∧(∀ b,F1 b→F b∧¬ F2 b)∧∀ b,F2 b→F b,
  fun hz hk ⟨hl,F1,F2,h3,h4,d1,d2⟩=>⟨hl,F1,F2,Res.st _ hz (fun b hb=>hk b (hb.imp id fun x=>(d1 b x).1)) h3,Res.st _ hz (fun b hb=>hk b (hb.imp id (d2 b))) h4,d1,d2⟩⟩
theorem rd_zipG {T G:Type}[Inhabited T][Inhabited G]{xs:List T}{us:List G}{i:Int}(hl:us.length=xs.length)(h0:0≤i)(h1:i<xs.length):rd (xs.zip us) i=(rd xs i,rd us i):=by
 have h2:i.toNat<xs.length:=by omega
 have h3:i.toNat<us.length:=by omega
 simp [rd,List.getD_eq_getElem?_getD,h2,h3,hl]
theorem zip_lenG {T G:Type}{xs:List T}{us:List G}(hl:us.length=xs.length):(xs.zip us).length=xs.length:=by simp [hl]
theorem zip_setG {T G:Type}{x':T}{u':G}:∀ {xs:List T} {us:List G} {i:Nat},(xs.zip us).set i (x',u')=(xs.set i x').zip (us.set i u')
 | [],us,i=>by simp
 | x::xs,[],i=>by cases i <;> simp
 | x::xs,v::us,0=>by simp
 | x::xs,v::us,i+1=>by simp [zip_setG]
theorem set_rd {T:Type}[Inhabited T]{xs:List T}{i:Int}(h0:0≤i)(h1:i<xs.length):xs.set i.toNat (rd xs i)=xs:=by
 have h2:=rd_get h0 h1;apply List.ext_getElem?;intro k;rw [List.getElem?_set]
 by_cases e:i.toNat=k
 ·subst e;rw [if_pos rfl,if_pos (by omega),h2]
 ·rw [if_neg e]
def pk:List Res→List Nat→Option (List Res×List Res)
 | H,[]=>some ([],H)
 | H,j::js=>match H[j]? with
  | some r=>(pk (H.eraseIdx j) js).map fun p=>(r::p.1,p.2)
  | none=>none
theorem HAll.pk {Z:Nat→Prop}{w:World}:∀ {js:List Nat} {H ks R:List Res} {F:Nat→Prop},S.pk H js=some (ks,R)→HAll H Z w F→∃ F1 F2:Nat→Prop,HAll ks Z w F1∧HAll R Z w F2∧(∀ b,F1 b→F b∧¬ F2 b)∧∀ b,F2 b→F b
 | [],H,ks,R,F,h,hH=>by simp [S.pk] at h;obtain ⟨rfl,rfl⟩:=h;exact ⟨fun _=>False,F,trivial,hH,fun _ x=>x.elim,fun _ x=>x⟩
 | j::js,H,ks,R,F,h,hH=>by
  unfold S.pk at h
  cases hr:H[j]? with
  | none=>simp [hr] at h
  | some r =>
   simp only [hr,Option.map_eq_some_iff] at h;obtain ⟨⟨ks',R'⟩,h2,h3⟩:=h;simp at h3;obtain ⟨rfl,rfl⟩:=h3;obtain ⟨F1,F2,h1,h4,d1,d2⟩:=hH.take hr;obtain ⟨F3,F4,h5,h6,e1,e2⟩:=HAll.pk h2 h4;refine ⟨fun b=>F1 b∨F3 b,F4,⟨F1,F3,h1,h5,fun b hb=>⟨.inl hb,fun x=>(d1 b hb).2 (e1 b x).1⟩,fun b hb=>.inr hb⟩,h6,fun b hb=>?_,fun b hb=>d2 b (e2 b hb)⟩;rcases hb with hb|hb
   ·exact ⟨(d1 b hb).1,fun x=>(d1 b hb).2 (e2 b x)⟩
   ·exact ⟨d2 b (e1 b hb).1,(e1 b hb).2⟩
theorem trg_fsl {T:Type}{D:Tg T}{v:Value}{xs:List T}{us:List D.G}{Z F:Nat→Prop}{w:World}(h:(Res.trg D v xs us none).h Z w F):(AV.fsl D.q xs).p (fun b=>Z b∨F b) w v:=by
 obtain ⟨hl,F1,F2,h3,⟨Fs,k1,k2,k3⟩,d1,d2⟩:=h;obtain ⟨A,m,e1,hc,hel⟩:=own_fsl (xs:=xs.zip us) h3;rw [zip_lenG hl] at e1 hc;refine ⟨A,m,e1,hc,fun i x hx=>?_⟩;have hi:i<xs.length:=by
  rcases Nat.lt_or_ge i xs.length with h|h
  ·exact h
  ·simp [h] at hx
 have hu:us[i]?=some (us[i]'(by omega)):=List.getElem?_eq_getElem (by omega);obtain ⟨a,ea,hb,vs,g1,g2⟩:=hel i (x,us[i]'(by omega)) (by simp [List.getElem?_zip_eq_some,hx,hu]);refine ⟨a,ea,hb.imp id fun y=>(d1 _ y).1,vs,?_,by rw [D.sz];exact g2⟩;have hk:=(k1 i x _ hx hu (by simp [holeG])).st (Z':=fun b=>Z b∨F1 b) (w':=w) (fun _ y=>.inl y) (fun _ _=>rfl);exact (D.fz hk g1).st (fun b hb=>by rcases hb with (y|y)|y;exact .inl y;exact .inr (d1 b y).1;exact .inr (d2 b (k2 i b y))) (fun _ _=>rfl)
section
variable {P:Program}{f:FuncId}{n:Nat}{ops:Array Oper}{l:List Oper}{k:List Item}{fr:Fr}{H:List Res}{ρ R:Type}{x:Option ρ}{X:ρ→Option R}{K:R→AV→List Res→Prop}{ty t t' e t0:TypeId}{d:Nat}{pos:String}{aft:Array Edge}
variable {T:Type}{D:Tg T}{v:Value}{xs:List T}{us:List D.G}{j:Nat}{o:Option (Int×D.G)}
theorem Vk {H':List Res}{op:Op}{av:AV}(hH:∀ {Z F:Nat→Prop} {w:World},HAll H Z w F→HAll H' Z w F)(h:S.D P n H' op ty fr av):S.D P n H op ty fr av :=
 fun o ho hty w0 F0 Z0 w F Z tmps hn hi hf=>h o ho hty w0 F0 Z0 w F Z tmps hn (hi.less hH) hf
theorem mh {todo:List Item}{H':List Res}(hH:∀ {Z F:Nat→Prop} {w:World},HAll H Z w F→HAll H' Z w F)(h:Sim P f n todo fr H' x X K):Sim P f n todo fr H x X K :=
 fun r hr w0 F0 Z0 w F Z tmps hn hi hf=>h r hr w0 F0 Z0 w F Z tmps hn (hi.less hH) hf
theorem trg_at {Z F:Nat→Prop}{w:World}(hH:HAll H Z w F)(hj:H[j]?=some (.trg D v xs us o)):us.length=xs.length:=by
 obtain ⟨F1,h,_⟩:=hH.at hj;exact h.1
theorem trg_part {Z F:Nat→Prop}{w:World}(hH:HAll H Z w F)(hj:H[j]?=some (.trg D v xs us o)):HAll (.own D.t D.c v (xs.zip (told us o)) :: .kidsG D.ch xs us (holeG o)::H.eraseIdx j) Z w F:=by
 obtain ⟨F1,F2,⟨hl,G1,G2,g1,g2,e1,e2⟩,h2,d1,d2⟩:=hH.take hj;exact ⟨G1,fun b=>G2 b∨F2 b,g1,⟨G2,F2,g2,h2,fun b hb=>⟨.inl hb,(d1 b (e2 b hb)).2⟩,fun b hb=>.inr hb⟩,fun b hb=>⟨(d1 b (e1 b hb).1).1,fun x=>x.elim (e1 b hb).2 (d1 b (e1 b hb).1).2⟩,fun b hb=>hb.elim (fun x=>(d1 b (e2 b x)).1) (d2 b)⟩
theorem trg_meet {Z F:Nat→Prop}{w:World}{R:List Res}(hl:us.length=xs.length)(hH:HAll (.own D.t D.c v (xs.zip (told us o)) :: .kidsG D.ch xs us (holeG o)::R) Z w F):HAll (.trg D v xs us o::R) Z w F:=by
 obtain ⟨G1,E,g1,⟨G2,F2,g2,h2,e1,e2⟩,d1,d2⟩:=hH;exact ⟨fun b=>G1 b∨G2 b,F2,⟨hl,G1,G2,g1,g2,fun b hb=>⟨.inl hb,fun x=>(d1 b hb).2 (e1 b x).1⟩,fun b hb=>.inr hb⟩,h2,fun b hb=>hb.elim (fun x=>⟨(d1 b x).1,fun y=>(d1 b x).2 (e2 b y)⟩) (fun x=>⟨d2 b (e1 b x).1,(e1 b x).2⟩),fun b hb=>d2 b (e2 b hb)⟩
theorem Pk {op:Op}{av:AV}(hj:H[j]?=some (.trg D v xs us o))(h:us.length=xs.length→S.D P n (.own D.t D.c v (xs.zip (told us o)) :: .kidsG D.ch xs us (holeG o)::H.eraseIdx j) op ty fr av):S.D P n H op ty fr av :=
 fun q ho hty w0 F0 Z0 w F Z tmps hn hi hf=>Vk (fun hH=>trg_part hH hj) (h (trg_at hi.res hj)) q ho hty w0 F0 Z0 w F Z tmps hn hi hf
theorem Wh {y:Operand}(ht:P.underlying t=some (.slice e))(hy:arg fr y=some (.sv v))(hj:H[j]?=some (.trg D v xs us o)):S.D P n H (.call ⟨.builtin .len,#[y],#[t]⟩) ty fr (Ai .i64 xs.length) :=
 Pk hj fun hl=>by
  have:=Q9 (P:=P) (n:=n) (ty:=ty) (j:=0) (H:=.own D.t D.c v (xs.zip (told us o)) :: .kidsG D.ch xs us (holeG o)::H.eraseIdx j) ht hy rfl;rw [zip_lenG (told_len.trans hl)] at this;exact this
theorem pd {y z:Operand}{kd:IntKind}{i:Int}(ht:P.underlying t=some (.slice e))(hsz:SizeIs P e D.c.sz)(hy:arg fr y=some (.sv v))(hj:H[j]?=some (.trg D v xs us o))(hz:arg fr z=some (Ai kd i))(h0:0≤i)(h1:i<xs.length):S.D P n H (.indexAddr t y z) ty fr (.ep v (i.toNat*D.c.sz)) :=
 Pk hj fun hl=>j8 (j:=0) ht hsz hy rfl hz h0 (by rw [zip_lenG (told_len.trans hl)];exact h1)
theorem rd_told {G:Type}[Inhabited G]{us:List G}{i:Int}{u:G}(h0:0≤i)(h1:i<us.length):rd (told us (some (i,u))) i=u:=by
 have:i.toNat<us.length:=by omega
 simp [rd,told,List.getD_eq_getElem?_getD,this]
theorem Vd [Inhabited T][Inhabited D.G]{y:Operand}{m off:Nat}{a:AV}(i:Int)(hg:IsAgg P t false)(hy:arg fr y=some (.ep v m))(hj:H[j]?=some (.trg D v xs us none))(hm:m=i.toNat*D.c.sz+off)(h0:0≤i)(h1:i<xs.length)(ha:(D.c.e (rd xs i,rd us i))[off]?=some a):S.D P n H (.load t y) ty fr a :=
 Pk hj fun hl=>L8 (j:=0) i hg hy rfl hm h0 (by rw [zip_lenG (told_len.trans hl)];exact h1) (by rw [rd_zipG (told_len.trans hl) h0 h1];exact ha)
theorem wk [Inhabited T][Inhabited D.G]{y:Operand}{m off q:Nat}(i:Int)(hg:IsAgg P t true)(hs:SizeIs P t q)(hy:arg fr y=some (.ep v m))(hj:H[j]?=some (.trg D v xs us none))(hm:m=i.toNat*D.c.sz+off)(h0:0≤i)(h1:i<xs.length)(hq:off+q≤D.c.sz):S.D P n H (.load t y) ty fr (.agg (((D.c.e (rd xs i,rd us i)).drop off).take q)) :=
 Pk hj fun hl=>by
  have:=vk (P:=P) (n:=n) (ty:=ty) (j:=0) (c:=D.c) (H:=.own D.t D.c v (xs.zip (told us none)) :: .kidsG D.ch xs us (holeG (G:=D.G) none)::H.eraseIdx j) i hg hs hy rfl hm h0 (by rw [zip_lenG (told_len.trans hl)];exact h1) hq;rw [rd_zipG (told_len.trans hl) h0 h1] at this;exact this
theorem rd_at {G:Type}[Inhabited G]{us:List G}{i:Int}(h0:0≤i)(h1:i<us.length):us[i.toNat]?=some (rd us i):=rd_get h0 h1
theorem m9 [Inhabited T][Inhabited D.G]{i:Int}{op:Op}{av:AV}(hj:H[j]?=some (.trg D v xs us none))(h0:0≤i)(h1:i<xs.length)(h:S.D P n (D.ch (rd xs i) (rd us i)) op ty fr av):S.D P n H op ty fr av:=by
 refine Vk (fun {Z F w} hH=>?_) h;obtain ⟨F1,⟨hl,G1,G2,_,⟨Fs,k1,k2,_⟩,_,e2⟩,hF⟩:=hH.at hj;exact (k1 _ _ _ (rd_get h0 h1) (rd_at h0 (by omega)) (by simp [holeG])).wide fun b hb=>hF b (e2 b (k2 _ b hb))
theorem kids_take {ch:T→D.G→List Res}{i:Nat}{y:T}{u:D.G}{Z F:Nat→Prop}{w:World}(h:(Res.kidsG ch xs us none).h Z w F)(hy:xs[i]?=some y)(hu:us[i]?=some u):∃ F1 F2:Nat→Prop,HAll (ch y u) Z w F1∧(Res.kidsG ch xs us (some i)).h Z w F2∧(∀ b,F1 b→F b∧¬ F2 b)∧∀ b,F2 b→F b:=by
 obtain ⟨Fs,k1,k2,k3⟩:=h;refine ⟨Fs i,fun b=>F b∧¬ Fs i b,k1 i y u hy hu (by simp),⟨fun k b=>k≠i∧Fs k b,fun k x u2 hx hu2 ho=>?_,fun k b hb=>⟨k2 k b hb.2,fun y=>hb.1 (k3 k _ b hb.2 y)⟩,fun k k' b hb hb'=>k3 k k' b hb.2 hb'.2⟩,fun b hb=>⟨k2 _ b hb,fun z=>z.2 hb⟩,fun b hb=>hb.1⟩;have e:k≠i:=fun e=>ho (by rw [e])
 have e2:(fun b=>k≠i∧Fs k b)=Fs k:=by funext b;simp [e]
 show HAll (ch x u2) Z w (fun b=>k≠i∧Fs k b);rw [e2];exact k1 k x u2 hx hu2 (by simp)
theorem kids_give {ch:T→D.G→List Res}{i:Nat}{y':T}{u':D.G}{Z F1 F2:Nat→Prop}{w:World}(hi:i<xs.length)(hl:us.length=xs.length)(h1:HAll (ch y' u') Z w F1)(h:(Res.kidsG ch xs us (some i)).h Z w F2)(hd:∀ b,F1 b→¬ F2 b):(Res.kidsG ch (xs.set i y') (us.set i u') none).h Z w fun b=>F1 b∨F2 b:=by
 obtain ⟨Fs,k1,k2,k3⟩:=h;refine ⟨fun k b=>(k≠i∧Fs k b)∨(k=i∧F1 b),fun k z u2 hz hu2 _=>?_,fun k b hb=>hb.elim (fun y=>.inr (k2 k b y.2)) (fun y=>.inl y.2),fun k k' b hb hb'=>?_⟩
 ·by_cases e:k=i
  ·subst e;rw [List.getElem?_set_self hi] at hz;cases hz;rw [List.getElem?_set_self (by omega)] at hu2;cases hu2;have e2:(fun b=>(k≠k∧Fs k b)∨(k=k∧F1 b))=F1:=by funext b;simp
   show HAll (ch y' u') Z w (fun b=>(k≠k∧Fs k b)∨(k=k∧F1 b));rw [e2];exact h1
  ·rw [List.getElem?_set,if_neg (Ne.symm e)] at hz hu2;have e2:(fun b=>(k≠i∧Fs k b)∨(k=i∧F1 b))=Fs k:=by funext b;simp [e]
   show HAll (ch z u2) Z w (fun b=>(k≠i∧Fs k b)∨(k=i∧F1 b));rw [e2];exact k1 k z u2 hz hu2 (by simp [Ne.symm e])
 ·rcases hb with ⟨a1,a2⟩|⟨a1,a2⟩ <;> rcases hb' with ⟨b1,b2⟩|⟨b1,b2⟩
  ·exact k3 k k' b a2 b2
  ·exact (hd b b2 (k2 k b a2)).elim
  ·exact (hd b a2 (k2 k' b b2)).elim
  ·rw [a1,b1]
theorem vl [Inhabited T][Inhabited D.G]{todo:List Item}(j:Nat)(i:Int)(hj:H[j]?=some (.trg D v xs us none))(h0:0≤i)(h1:i<xs.length)(h:Sim P f n todo fr (.trg D v xs us (some (i,rd us i))::(D.ch (rd xs i) (rd us i)++H.eraseIdx j)) x X K):Sim P f n todo fr H x X K:=by
 refine mh (fun {Z F w} hH=>?_) h;obtain ⟨F1,F2,⟨hl,G1,G2,g1,g2,e1,e2⟩,h2,d1,d2⟩:=hH.take hj;obtain ⟨E1,E2,k1,k2,c1,c2⟩:=kids_take g2 (rd_get h0 h1) (rd_at h0 (by omega));refine ⟨fun b=>G1 b∨E2 b,fun b=>E1 b∨F2 b,⟨hl,G1,E2,by simp only [told];rw [set_rd h0 (by omega)];exact g1,k2,fun b hb=>⟨.inl hb,fun y=>(e1 b hb).2 (c2 b y)⟩,fun b hb=>.inr hb⟩,k1.append h2 fun b hb y=>(d1 b (e2 b (c1 b hb).1)).2 y,fun b hb=>?_,fun b hb=>hb.elim (fun y=>(d1 b (e2 b (c1 b y).1)).1) (d2 b)⟩;rcases hb with hb|hb
 ·exact ⟨(d1 b (e1 b hb).1).1,fun y=>y.elim (fun y=>(e1 b hb).2 (c1 b y).1) (d1 b (e1 b hb).1).2⟩
 ·exact ⟨(d1 b (e2 b (c2 b hb))).1,fun y=>y.elim (fun y=>(c1 b y).2 hb) (d1 b (e2 b (c2 b hb))).2⟩
theorem Pj [Inhabited T][Inhabited D.G]{todo:List Item}{R:List Res}{i:Int}{u:D.G}(j:Nat)(js:List Nat)(x':T)(u':D.G)(hj:H[j]?=some (.trg D v xs us (some (i,u))))(hp:S.pk (H.eraseIdx j) js=some (D.ch x' u',R))(h0:0≤i)(h1:i<xs.length)(hx':D.c.e (x',u')=D.c.e (rd xs i,u))(h:Sim P f n todo fr (.trg D v (xs.set i.toNat x') (us.set i.toNat u') none::R) x X K):Sim P f n todo fr H x X K:=by
 refine mh (fun {Z F w} hH=>?_) h;obtain ⟨F1,F2,⟨hl,G1,G2,g1,g2,e1,e2⟩,h2,d1,d2⟩:=hH.take hj;obtain ⟨E1,E2,k1,k2,c1,c2⟩:=HAll.pk hp h2;have hil:i.toNat<xs.length:=by omega
 refine ⟨fun b=>G1 b∨(E1 b∨G2 b),E2,⟨by simpa using hl,G1,fun b=>E1 b∨G2 b,own_congr g1 (by simp [hl,told]) (fun k z z' hz hz'=>?_),kids_give hil hl k1 g2 (fun b hb y=>(d1 b (e2 b y)).2 (c1 b hb).1),fun b hb=>⟨.inl hb,fun y=>y.elim (fun y=>(d1 b (e1 b hb).1).2 (c1 b y).1) (e1 b hb).2⟩,fun b hb=>.inr hb⟩,k2,fun b hb=>?_,fun b hb=>d2 b (c2 b hb)⟩
 ·have hz2:(xs.zip (told us (some (i,u)))).set i.toNat (x',u')=(xs.set i.toNat x').zip (us.set i.toNat u'):=by rw [zip_setG];simp [told]
  rw [show told (us.set i.toNat u') none=us.set i.toNat u' from rfl,← hz2,List.getElem?_set] at hz'
  by_cases e:i.toNat=k
  ·subst e;rw [if_pos rfl,if_pos (by rw [zip_lenG (told_len.trans hl)];exact hil)] at hz';have hz3:=rd_get (xs:=xs.zip (told us (some (i,u)))) h0 (by rw [zip_lenG (told_len.trans hl)];exact h1);rw [hz] at hz3;rw [← Option.some.inj hz',Option.some.inj hz3,rd_zipG (told_len.trans hl) h0 h1,rd_told h0 (by omega)];exact hx'
  ·rw [if_neg e,hz] at hz';rw [Option.some.inj hz']
 ·rcases hb with hb|hb|hb
  ·exact ⟨(d1 b (e1 b hb).1).1,fun y=>(d1 b (e1 b hb).1).2 (c2 b y)⟩
  ·exact ⟨d2 b (c1 b hb).1,(c1 b hb).2⟩
  ·exact ⟨(d1 b (e2 b hb)).1,fun y=>(d1 b (e2 b hb)).2 (c2 b y)⟩
theorem ck [Inhabited T][Inhabited D.G]{todo:List Item}{R:List Res}{i:Int}(j:Nat)(js:List Nat)(x':T)(hj:H[j]?=some (.trg D v xs us (some (i,rd us i))))(hp:S.pk (H.eraseIdx j) js=some (D.ch x' (rd us i),R))(h0:0≤i)(h1:i<xs.length)(hx':D.c.e (x',rd us i)=D.c.e (rd xs i,rd us i))(h:Sim P f n todo fr (.trg D v (xs.set i.toNat x') us none::R) x X K):Sim P f n todo fr H x X K:=by
 intro r hr w0 F0 Z0 w F Z tmps hn hi hf;have hl:=trg_at hi.res hj;have e:=set_rd (xs:=us) h0 (by omega);exact Pj j js x' (rd us i) hj hp h0 h1 hx' (by rw [e];exact h) r hr w0 F0 Z0 w F Z tmps hn hi hf
theorem bf [Inhabited T][Inhabited D.G](j:Nat)(i:Int)(hj:H[j]?=some (.trg D v xs us none))(h0:0≤i)(h1:i<xs.length)(h:SimL P f n ops l k fr (.trg D v xs us (some (i,rd us i))::(D.ch (rd xs i) (rd us i)++H.eraseIdx j)) x X K):SimL P f n ops l k fr H x X K:=fun is hs=>vl j i hj h0 h1 (h is hs)
theorem bk [Inhabited T][Inhabited D.G]{R:List Res}{i:Int}{u:D.G}(j:Nat)(js:List Nat)(x':T)(u':D.G)(hj:H[j]?=some (.trg D v xs us (some (i,u))))(hp:S.pk (H.eraseIdx j) js=some (D.ch x' u',R))(h0:0≤i)(h1:i<xs.length)(hx':D.c.e (x',u')=D.c.e (rd xs i,u))(h:SimL P f n ops l k fr (.trg D v (xs.set i.toNat x') (us.set i.toNat u') none::R) x X K):SimL P f n ops l k fr H x X K:=fun is hs=>Pj j js x' u' hj hp h0 h1 hx' (h is hs)
theorem je [Inhabited T][Inhabited D.G]{R:List Res}{i:Int}(j:Nat)(js:List Nat)(x':T)(hj:H[j]?=some (.trg D v xs us (some (i,rd us i))))(hp:S.pk (H.eraseIdx j) js=some (D.ch x' (rd us i),R))(h0:0≤i)(h1:i<xs.length)(hx':D.c.e (x',rd us i)=D.c.e (rd xs i,rd us i))(h:SimL P f n ops l k fr (.trg D v (xs.set i.toNat x') us none::R) x X K):SimL P f n ops l k fr H x X K:=fun is hs=>ck j js x' hj hp h0 h1 hx' (h is hs)
theorem am [Inhabited T][Inhabited D.G]{y u:Operand}{m off q:Nat}{bs:List AV}{a:AV}{i:Int}{u0:D.G}(u':D.G)(hs:SizeIs P t q)(hy:arg fr y=some (.ep v m))(hj:H[j]?=some (.trg D v xs us (some (i,u0))))(hm:m=i.toNat*D.c.sz+off)(h0:0≤i)(h1:i<xs.length)(hu:arg fr u=some a)(hc:CellsOf a bs)(ho1:OneL bs)(hq:bs.length=q)(hql:off+q≤D.c.sz)
  (hx':D.c.e (rd xs i,u')=splice (D.c.e (rd xs i,u0)) off bs) (h:SimL P f n ops l k fr (.trg D v xs us (some (i,u'))::H.eraseIdx j) x X K):SimL P f n ops (⟨none,.store t y u,ty,pos,aft,none⟩::l) k fr H x X K:=by
 intro is hi r hr w0 F0 Z0 w F Z tmps hn hI hf;have hl:=trg_at hI.res hj;refine mh (fun hH=>trg_part hH hj) (Me (j:=0) i (rd xs i,u') hs hy rfl hm h0 (by rw [zip_lenG (told_len.trans hl)];exact h1) hu hc ho1 hq hql (by rw [rd_zipG (told_len.trans hl) h0 h1,rd_told h0 (by omega)];exact hx') (fun is2 hi2=>?_) is hi) r hr w0 F0 Z0 w F Z tmps hn hI hf;simp only [List.set_cons_zero];rw [zip_setG,set_rd h0 h1,show (told us (some (i,u0))).set i.toNat u'=told us (some (i,u')) by simp [told]];exact mh (fun hH=>trg_meet (o:=some (i,u')) hl hH) (h is2 hi2)
def Res.kg (D:Tg T)(zs:List (T×D.G)):Res:=.kidsG D.ch (zs.map Prod.fst) (zs.map Prod.snd) none
theorem zip_fsG {A B:Type}:∀ zs:List (A×B),(zs.map Prod.fst).zip (zs.map Prod.snd)=zs
 | []=>rfl
 | z::zs=>by simp [zip_fsG zs]
theorem sKg0 {todo:List Item}(D:Tg T)(h:Sim P f n todo fr (.kg D []::H) x X K):Sim P f n todo fr H x X K :=
 mh (H':=.kg D []::H) (fun {Z F w} hH=>⟨fun _=>False,F,⟨fun _ _=>False,fun k x u hx=>by simp at hx,fun _ _ x=>x,fun _ _ _ x=>x.elim⟩,hH,fun _ x=>x.elim,fun _ x=>x⟩) h
theorem sKg1 {todo:List Item}{D:Tg T}{zs:List (T×D.G)}{R:List Res}(js:List Nat)(y:T)(u:D.G)(hj0:H[0]?=some (.kg D zs))(hp:S.pk (H.eraseIdx 0) js=some (D.ch y u,R))(h:Sim P f n todo fr (.kg D ((y,u)::zs)::R) x X K):Sim P f n todo fr H x X K:=by
 refine mh (fun {Z F w} hH=>?_) h;obtain ⟨F1,F2,⟨Fs,k1,k2,k3⟩,h2,d1,d2⟩:=hH.take hj0;obtain ⟨E1,E2,g1,g2,c1,c2⟩:=HAll.pk hp h2;refine ⟨fun b=>F1 b∨E1 b,E2,⟨fun k=>match k with|0=>E1|k+1=>Fs k,fun k x u2 hx hu ho=>?_,fun k b hb=>?_,fun k k' b hb hb'=>?_⟩,g2,fun b hb=>hb.elim (fun y=>⟨(d1 b y).1,fun z=>(d1 b y).2 (c2 b z)⟩) (fun y=>⟨d2 b (c1 b y).1,(c1 b y).2⟩),fun b hb=>d2 b (c2 b hb)⟩
 ·cases k with
  | zero=>simp at hx hu;subst hx hu;exact g1
  | succ k=>simp at hx hu;exact k1 k x u2 (by simpa using hx) (by simpa using hu) (by simp)
 ·cases k with
  | zero=>exact .inr hb
  | succ k=>exact .inl (k2 k b hb)
 ·cases k <;> cases k'
  ·rfl
  ·exact ((d1 b (k2 _ b hb')).2 (c1 b hb).1).elim
  ·exact ((d1 b (k2 _ b hb)).2 (c1 b hb').1).elim
  ·rw [k3 _ _ b hb hb']
theorem th (D:Tg T)(h:SimL P f n ops l k fr (.kg D []::H) x X K):SimL P f n ops l k fr H x X K:=fun is hs=>sKg0 D (h is hs)
theorem rh {D:Tg T}{zs:List (T×D.G)}{R:List Res}(js:List Nat)(y:T)(u:D.G)(hj0:H[0]?=some (.kg D zs))(hp:S.pk (H.eraseIdx 0) js=some (D.ch y u,R))(h:SimL P f n ops l k fr (.kg D ((y,u)::zs)::R) x X K):SimL P f n ops l k fr H x X K:=fun is hs=>sKg1 js y u hj0 hp (h is hs)
theorem mj {todo:List Item}(j:Nat)(D:Tg T)(hj:H[j]?=some (.own D.t D.c v ([]:List (T×D.G))))(h:Sim P f n todo fr (H.set j (.trg D v [] [] none)) x X K):Sim P f n todo fr H x X K :=
 Li (r':=.trg D v [] [] none) j hj (fun Z w F1 h1=>⟨rfl,F1,fun _=>False,h1,⟨fun _ _=>False,fun k x u hx=>by simp at hx,fun _ _ x=>x,fun _ _ _ x=>x.elim⟩,fun b hb=>⟨hb,id⟩,fun _ x=>x.elim⟩) h
theorem km (j:Nat)(D:Tg T)(hj:H[j]?=some (.own D.t D.c v ([]:List (T×D.G))))(h:SimL P f n ops l k fr (H.set j (.trg D v [] [] none)) x X K):SimL P f n ops l k fr H x X K:=fun is hs=>mj j D hj (h is hs)
theorem sTzG {todo:List Item}(j:Nat)(D:Tg T){z:T}{u:D.G}{m:Nat}(hj:H[j]?=some (.own D.t D.c v (List.replicate m (z,u))))(hz:∀ Z w,HAll (D.ch z u) Z w (fun _=>False))(h:Sim P f n todo fr (H.set j (.trg D v (List.replicate m z) (List.replicate m u) none)) x X K):Sim P f n todo fr H x X K:=by
 have e:∀ m:Nat,(List.replicate m z).zip (List.replicate m u)=List.replicate m (z,u):=fun m=>by
  induction m with
  | zero=>rfl
  | succ m ih=>simp [List.replicate_succ,ih]
 refine Li (r':=.trg D v (List.replicate m z) (List.replicate m u) none) j hj (fun Z w F1 h1=>⟨by simp,F1,fun _=>False,by simp only [told];rw [e];exact h1,⟨fun _ _=>False,fun k x u' hx hu _=>?_,fun _ _ x=>x,fun _ _ _ x=>x.elim⟩,fun b hb=>⟨hb,id⟩,fun _ x=>x.elim⟩) h;have h1:=List.mem_of_getElem? hx;have h2:=List.mem_of_getElem? hu;rw [List.mem_replicate] at h1 h2;rw [h1.2,h2.2];exact hz Z w
theorem Lk (j:Nat)(D:Tg T){z:T}{u:D.G}{m:Nat}(hj:H[j]?=some (.own D.t D.c v (List.replicate m (z,u))))(hz:∀ Z w,HAll (D.ch z u) Z w (fun _=>False))(h:SimL P f n ops l k fr (H.set j (.trg D v (List.replicate m z) (List.replicate m u) none)) x X K):SimL P f n ops l k fr H x X K:=fun is hs=>sTzG j D hj hz (h is hs)
theorem Wi {y u:Operand}{zs:List (T×D.G)}{z:Value}{bytes:Nat}(j:Nat)(hj0:H[0]?=some (.kg D zs))(hj:(H.eraseIdx 0)[j]?=some (.trg D v xs us none))(ht:P.underlying t=some (.slice D.t))(hinfo:Info P D.t z D.c.sz bytes)(hzs:z.cells.size=D.c.sz)(hy:arg fr y=some (.sv v))(hu:arg fr u=some (.fsl D.c zs))(hb:(xs.length+zs.length)*bytes≤140737488355328)(hb0:Nat.blt 0 bytes=true)(hdn:Nat.blt d n=true)
  (h:∀ v',SimL P f n ops l k ((d,.sv v')::fr) (.trg D v' (xs++zs.map Prod.fst) (us++zs.map Prod.snd) none::(H.eraseIdx 0).eraseIdx j) x X K):SimL P f n ops (⟨some d,.call ⟨.builtin .append,#[y,u],#[t,t]⟩,ty,pos,aft,none⟩::l) k fr H x X K:=by
 intro is hi r hr w0 F0 Z0 w F Z tmps hn hI hf;obtain ⟨H1,rfl⟩:∃ H1,H = .kg D zs::H1:=by
  cases H with
  | nil=>simp at hj0
  | cons a H1=>simp at hj0;exact ⟨H1,by rw [hj0]⟩
 simp only [List.eraseIdx_cons_zero] at hj h;have hj':(Res.kg D zs::H1)[j+1]?=some (.trg D v xs us none):=by simpa using hj
 have hl:=trg_at hI.res hj';refine mh (H':=.own D.t D.c v (xs.zip us) :: .kidsG D.ch xs us none::(Res.kg D zs::H1).eraseIdx (j+1)) (fun hH=>trg_part hH hj') (sAp (j:=0) (xs:=xs.zip us) ht hinfo hzs hy rfl hu (by rw [zip_lenG hl];exact hb) hb0 hdn (fun v' is2 hi2=>?_) is hi) r hr w0 F0 Z0 w F Z tmps hn hI hf;simp only [List.set_cons_zero,List.eraseIdx_cons_succ];refine Pm (r:=.kidsG D.ch (xs++zs.map Prod.fst) (us++zs.map Prod.snd) none) 1 1 rfl rfl (fun Z w G1 G2 hd ⟨Fs,a1,a2,a3⟩ ⟨Es,b1,b2,b3⟩=>?_) ?_
 ·refine ⟨fun k=>if k<xs.length then Fs k else Es (k-xs.length),fun k q u2 hq hu2 ho=>?_,fun k b hb=>?_,fun k k' b hb hb'=>?_⟩
  ·by_cases hk:k<xs.length
   ·rw [List.getElem?_append_left hk] at hq;rw [List.getElem?_append_left (by omega)] at hu2;show HAll (D.ch q u2) Z w (if k<xs.length then Fs k else Es (k-xs.length));rw [if_pos hk];exact a1 k q u2 hq hu2 (by simp)
   ·rw [List.getElem?_append_right (by omega)] at hq;rw [List.getElem?_append_right (by omega),hl] at hu2;show HAll (D.ch q u2) Z w (if k<xs.length then Fs k else Es (k-xs.length));rw [if_neg hk];exact b1 _ q u2 hq hu2 (by simp)
  ·simp only at hb
   split at hb
   ·exact .inl (a2 _ b hb)
   ·exact .inr (b2 _ b hb)
  ·simp only at hb hb'
   split at hb <;> split at hb'
   ·exact a3 _ _ b hb hb'
   ·exact (hd b (a2 _ b hb) (b2 _ b hb')).elim
   ·exact (hd b (a2 _ b hb') (b2 _ b hb)).elim
   ·have:=b3 _ _ b hb hb';omega
 ·have e:xs.zip us++zs=(xs++zs.map Prod.fst).zip (us++zs.map Prod.snd):=by
   rw [List.zip_append hl.symm,zip_fsG]
  simp only [e];have hrep:pickR (H1.eraseIdx j) (List.replicate (H1.eraseIdx j).length 0)=H1.eraseIdx j:=by
   induction H1.eraseIdx j with
   | nil=>rfl
   | cons a L ih=>simp only [List.length_cons,List.replicate_succ];show a::pickR L _=_;rw [ih]
  refine sPk (H':=.own D.t D.c v' ((xs++zs.map Prod.fst).zip (us++zs.map Prod.snd)) :: .kidsG D.ch (xs++zs.map Prod.fst) (us++zs.map Prod.snd) none::H1.eraseIdx j) (1::0::List.replicate (H1.eraseIdx j).length 0) ?_ (mh (fun hH=>trg_meet (o:=none) (by simp [hl]) hH) (h v' is2 hi2));show _::_::pickR (H1.eraseIdx j) (List.replicate (H1.eraseIdx j).length 0)=_;rw [hrep]
theorem cn {x y:Operand}{kd:IntKind}{i:Int}{m:Nat}(xs:List Bool)(ht:P.underlying t=some (.array m e))(hs:SizeIs P e 1)(hg:IsAgg P e false)(hm:xs.length=m)(hx:arg fr x=some (.agg (xs.map fun a=>Ab a)))(hy:arg fr y=some (Ai kd i))(h0:0≤i)(h1:i<xs.length):S.D P n H (.index t x y) ty fr (Ab (rd xs i)) :=
 .of fun o ho hty w Z F ρ _ hf=>by
  obtain ⟨vs,e1,hv⟩:=hf (by simp [Op.operands]) hx;have e2:ρ y=_:=hf (by simp [Op.operands]) hy;have hg2:(xs.map fun a=>Ab a)[i.toNat]?=some (Ab (rd xs i)):=by rw [List.getElem?_map,rd_get h0 h1];rfl
  obtain ⟨v,hv1,hv2⟩:=hv.get hg2;have hv3:v = .bool (rd xs i):=hv2;subst hv3;have hp:=part_one (P:=P) (w:=w) hg hv1;have h1':i<(m:Int):=by omega
  exact ⟨_,by simp [execOp,ho,e1,e2,Instr.index,run_underlying ht,Sem.run_bind,asIntOf,h0,h1',hs w,hp],rfl⟩
theorem gk {T:Type}{c:Co T}(j i:Nat)(e:TypeId){b:Nat}{az:List AV}(hj:H[j]?=some (.box b az))(hu:az[i]?=some (.lit (.slice none 0 0)))(h:∀ v,SimL P f n ops l k fr (.own e c v []::H.set j (.box b (az.set i (.sv v)))) x X K):SimL P f n ops l k fr H x X K:=fun is hs=>zg j i e hj hu fun v=>h v is hs
theorem wj {y:Operand}{b o j m:Nat}{aS bs:List AV}(hg:IsAgg P t true)(hs:SizeIs P t m)(hy:arg fr y=some (.lit (.pointer (some ⟨b,o,none⟩))))(hj:H[j]?=some (.box b aS))(hm:o+m≤aS.length)(he:(aS.drop o).take m=bs):S.D P n H (.load t y) ty fr (.agg bs):=he ▸ yc hg hs hy hj hm
theorem yk {x:Operand}{aS bs:List AV}{k:Nat}(hg:IsAgg P t true)(hs:SizeIs P t k)(hx:arg fr x=some (.fptr aS))(hk:k≤aS.length)(he:aS.take k=bs):S.D P n H (.load t x) ty fr (.agg bs):=he ▸ Ja hg hs hx hk
theorem lendG {D:Tg T}{v:Value}{xs:List T}{us:List D.G}(j:Nat)(hj:H[j]?=some (.trg D v xs us none)){Z F:Nat→Prop}{w:World}{u:Value}(hH:HAll H Z w F)(hp:(AV.sv v).p Z w u):(AV.fsl D.q xs).p (fun b=>Z b∨F b) w u:=by
 obtain ⟨F1,g1,hF⟩:=hH.at hj;rw [hp.1];exact AV.st _ (fun b hb=>hb.imp id (hF b)) (Keep.refl _ _) (trg_fsl g1)
theorem flTrg (h:∀ x,FlatL (D.c.e x))(hk:∀ x u,FlatRs (D.ch x u)):FlatR (.trg D v xs us o):=fun Z Z' w F ⟨hl,F1,F2,h3,⟨Fs,k1,k2,k3⟩,d1,d2⟩=>⟨hl,F1,F2,flOwn h Z Z' w F1 h3,⟨Fs,fun k x u hx hu ho=>(k1 k x u hx hu ho).flat (hk x u),k2,k3⟩,d1,d2⟩
end
end S
namespace S
open Go.RowKit
section
variable {P:Program}{f:FuncId}{n:Nat}{ops:Array Oper}{l:List Oper}{k:List Item}{fr:Fr}{H:List Res}{ρ R:Type}{x:Option ρ}{X:ρ→Option R}{K:R→AV→List Res→Prop}{ty t t' e t0:TypeId}{d:Nat}{pos:String}{aft:Array Edge}
variable {T:Type}{D:Tg T}{v:Value}{xs:List T}{us:List D.G}{j:Nat}
theorem Vb {H':List Res}(hH:H=H')(h:SimL P f n ops l k fr H' x X K):SimL P f n ops l k fr H x X K:=hH ▸ h
end
theorem Y {α:Sort _}{a:α}:a=a:=rfl
theorem dT {p:Prop}[Decidable p](h:p):decide p=true:=decide_eq_true h
theorem dF {p:Prop}[Decidable p](h:¬ p):decide p=false:=decide_eq_false h
theorem eF {b:Bool}(h:¬ b=true):b=false:=eq_false_of_ne_true h
theorem nn {k:Nat}:(0:Int)≤(k:Int):=Int.natCast_nonneg k
section
variable {P:Program}{f:FuncId}{n:Nat}{ops ops0:Array Oper}{l l':List Oper}{k:List Item}{fr fr':Fr}{H:List Res}{ρ R:Type}{x:Option ρ}{X:ρ→Option R}{K:R→AV→List Res→Prop}{ty t t' e t0:TypeId}{d id:Nat}{pos:String}{aft:Array Edge}{b:Code}{y:Operand}{a av:AV}{op:Op}{oj:Oper}{tt bb:Bool}{dj:Nat}
theorem sSR (hl:ops.toList=l)(h:SimL P f n ops l (.code b::k) fr H x X K):Sim P f n (.code (.seq (.region id ops false) b)::k) fr H x X K:=P1 (G3 hl h)
theorem sES (hl:ops.toList=l)(h:SimL P f n ops l (.code b::k) fr H x X K):SimL P f n ops0 [] (.code (.seq (.region id ops false) b)::k) fr H x X K:=k0 (P1 (G3 hl h))
theorem sM (hx:arg fr y=some a)(hdn:Nat.blt d n=true)(h:SimL P f n ops l k ((d,a)::fr) H x X K):SimL P f n ops (⟨some d,.move y,ty,pos,aft,none⟩::l) k fr H x X K:=sQ (dMv hx) hdn h
theorem sA (hx:arg fr y=some a)(hdn:Nat.blt d n=true)(h:SimL P f n ops l k ((d,a)::fr) H x X K):SimL P f n ops (⟨some d,.assign y,ty,pos,aft,none⟩::l) k fr H x X K:=sQ (dAs hx) hdn h
theorem sU (j:Nat)(hj:ops[j]?=some oj)(hdj:oj.dst=some dj)(hl:look fr dj=some (Ab tt))(ht:tt = !bb)(hjn:Nat.blt dj n=true)(hdn:Nat.blt d n=true)(h:SimL P f n ops l k ((d,.lit undef)::fr) H x X K):SimL P f n ops (⟨some d,op,ty,pos,aft,some (j,bb)⟩::l) k fr H x X K:=sQu hj hdj hl ht hjn hdn h
theorem sG (j:Nat)(hj:ops[j]?=some oj)(hdj:oj.dst=some dj)(hl:look fr dj=some (Ab tt))(ht:tt=bb)(hjn:Nat.blt dj n=true)(hD:D P n H op ty fr av)(hdn:Nat.blt d n=true)(h:SimL P f n ops l k ((d,av)::fr) H x X K):SimL P f n ops (⟨some d,op,ty,pos,aft,some (j,bb)⟩::l) k fr H x X K:=sQg hj hdj hl ht hjn hD hdn h
theorem QL.m {l1:List Oper}(hx:arg fr y=some av)(hdn:Nat.blt d n=true)(h:QL P n H ops ((d,av)::fr) l fr' l1):QL P n H ops fr (⟨some d,.move y,ty,pos,aft,none⟩::l) fr' l1:=.c (.r (dMv hx)) rfl hdn h
theorem QL.r {l1:List Oper}(hD:D P n H op ty fr av)(hdn:Nat.blt d n=true)(h:QL P n H ops ((d,av)::fr) l fr' l1):QL P n H ops fr (⟨some d,op,ty,pos,aft,none⟩::l) fr' l1:=.c (.r hD) rfl hdn h
theorem QL.g {l1:List Oper}(j:Nat)(hj:ops[j]?=some oj)(hdj:oj.dst=some dj)(hl:look fr dj=some (Ab tt))(ht:tt=bb)(hjn:Nat.blt dj n=true)(hD:D P n H op ty fr av)(hdn:Nat.blt d n=true)(h:QL P n H ops ((d,av)::fr) l fr' l1):QL P n H ops fr (⟨some d,op,ty,pos,aft,some (j,bb)⟩::l) fr' l1:=.c (.g hj hdj hl ht hjn hD) rfl hdn h
theorem QL.w {l1:List Oper}(j:Nat)(hj:ops[j]?=some oj)(hdj:oj.dst=some dj)(hl:look fr dj=some (Ab tt))(ht:tt = !bb)(hjn:Nat.blt dj n=true)(hdn:Nat.blt d n=true)(h:QL P n H ops ((d,.lit undef)::fr) l fr' l1):QL P n H ops fr (⟨some d,op,ty,pos,aft,some (j,bb)⟩::l) fr' l1:=.c (.u hj hdj hl ht hjn) rfl hdn h
theorem sLo {c:Code}{id:Nat}{σ γ:Type}{X':σ→Option ρ}(l:Nat→σ→Option σ)(A:σ→γ→Fr)(B:σ→γ→List Res){s0:σ}(g0:γ){m:Nat}(h0:∀ s,l 0 s=none)(js:List Nat)(hs:Sub (A s0 g0) fr)(hH:S.dropAll H js=B s0 g0)
  (hx:∀ s g,Sim P f n k (A s g) (B s g) (X' s) X K)
  (body:∀ m s g,(∀ s' g',Sim P f n (.inLoop c :: .inBlock id::k) (A s' g') (B s' g') (l m s') (thenK X' X) K)→(∀ s' g',Sim P f n k (A s' g') (B s' g') (some s') (thenK X' X) K)→Sim P f n (.code c :: .inLoop c :: .inBlock id::k) (A s g) (B s g) (l (m+1) s) (thenK X' X) K) :
  Sim P f n (.code (.block id (.loop c))::k) fr H ((l m s0).bind X') X K:=Gm l A B A B g0 h0 js hs hH hx body
theorem Gc {c:Code}{id:Nat}{σ γ:Type}{X':σ→Option ρ}(l:Nat→σ→Option (σ ⊕ ρ))(A:σ→γ→Fr)(B:σ→γ→List Res){s0:σ}(g0:γ){m:Nat}(h0:∀ s,l 0 s=none)(js:List Nat)(hs:Sub (A s0 g0) fr)(hH:S.dropAll H js=B s0 g0)
  (hx:∀ s g,Sim P f n k (A s g) (B s g) (X' s) X K)
  (body:∀ m s g,(∀ s' g',Sim P f n (.inLoop c :: .inBlock id::k) (A s' g') (B s' g') (l m s') (brkK X' X) K)→(∀ s' g',Sim P f n k (A s' g') (B s' g') (some (.inl s')) (brkK X' X) K)→Sim P f n (.code c :: .inLoop c :: .inBlock id::k) (A s g) (B s g) (l (m+1) s) (brkK X' X) K) :
  Sim P f n (.code (.block id (.loop c))::k) fr H (brk (l m s0) X') X K:=zl l A B A B g0 h0 js hs hH hx body
end
end S
namespace S
open Go.RowKit
def Res.ex {I:Type}(L:I→List Res):Res:=⟨fun Z w F=>∃ i,HAll (L i) Z w F,fun hz hk ⟨i,h⟩=>⟨i,HAll.st hz hk h⟩⟩
theorem ex_mk {I:Type}{L:I→List Res}(i:I){Z F:Nat→Prop}{w:World}(h:HAll (L i) Z w F):HAll [.ex L] Z w F:=⟨F,fun _=>False,⟨i,h⟩,trivial,fun _ x=>⟨x,id⟩,fun _ x=>x.elim⟩
def Meth (P:Program)(t:TypeId)(name:String)(g:FuncId):Prop:=∀ (A:Addr) (w:World),(method (P.types.size+Made.depth) t (.pointer (some A)) name).run P w = .ok (g,.pointer (some A)) w
section
variable {P:Program}{f:FuncId}{n:Nat}{ops:Array Oper}{l:List Oper}{k:List Item}{fr:Fr}{H:List Res}{ρ R:Type}{x:Option ρ}{X:ρ→Option R}{K:R→AV→List Res→Prop}{ty t t' e t0:TypeId}{d:Nat}{pos:String}{aft:Array Edge}
theorem Ql {I:Type}{L:I→List Res}{todo:List Item}(j:Nat)(hj:H[j]?=some (.ex L))(h:∀ i,Sim P f n todo fr (L i++H.eraseIdx j) x X K):Sim P f n todo fr H x X K:=by
 intro r hr w0 F0 Z0 w F Z tmps hn hi hf;obtain ⟨F1,F2,⟨i,h1⟩,h2,d1,d2⟩:=hi.res.take hj;refine h i r hr w0 F0 Z0 w F Z tmps hn (hi.less fun _=>(h1.append h2 fun b hb=>(d1 b hb).2).wide ?_) hf;exact fun b hb=>hb.elim (fun x=>(d1 b x).1) (d2 b)
theorem zh {I:Type}{L:I→List Res}{todo:List Item}(js:List Nat)(i:I)(hpk:S.pickR H js=L i)(h:Sim P f n todo fr (.ex L::restR H js) x X K):Sim P f n todo fr H x X K:=by
 intro r hr w0 F0 Z0 w F Z tmps hn hi hf;refine h r hr w0 F0 Z0 w F Z tmps hn (hi.less fun _=>?_) hf;obtain ⟨F1,F2,h1,h2,d1,d2⟩:=hi.res.part js;exact ⟨F1,F2,⟨i,hpk ▸ h1⟩,h2,d1,d2⟩
theorem ae {todo:List Item}{H':List Res}(hH:H=H')(h:Sim P f n todo fr H' x X K):Sim P f n todo fr H x X K:=hH ▸ h
theorem Hands.ex {J I Q:Type}{L:J→List Res}{g:FuncId}{avs:List AV}{y:Option Q}{A:Q→I→AV}{B:Q→I→List Res}(h:∀ j,Hands P g avs (L j) y A B):Hands P g avs [.ex L] y A B:=by
 intro r hr w F Z vs hvs hi;obtain ⟨F1,F2,⟨j,h1⟩,_,d1,_⟩:=hi.res;exact h j r hr w F Z vs hvs ⟨hi.base,hi.z0,hi.zin,hi.fin,h1.wide fun b hb=>(d1 b hb).1⟩
theorem Hands.to {I I' Q:Type}{Hin:List Res}{g:FuncId}{avs:List AV}{y:Option Q}{A:Q→I→AV}{B:Q→I→List Res}{A':Q→I'→AV}{B':Q→I'→List Res}(h:Hands P g avs Hin y A B)(F:Q→I→I')(ha:∀ r i,A r i=A' r (F r i))(hb:∀ r i (Z:Nat→Prop) (w:World) (F1:Nat→Prop),HAll (B r i) Z w F1→HAll (B' r (F r i)) Z w F1):Hands P g avs Hin y A' B':=by
 intro r hr w F0 Z vs hvs hi;refine (h r hr w F0 Z vs hvs hi).mono fun e w' ⟨v,he,F',Z',a,H',⟨u,h1,h2⟩,hinv,hp⟩=>?_
 subst h1 h2;exact ⟨v,he,F',Z',_,_,⟨F r u,rfl,rfl⟩,hinv.less (hb r u _ _ _),ha r u ▸ hp⟩
theorem call_runI {o:Oper}{g:FuncId}{tp:TypeId}{name:String}{A:Addr}{y:Operand}{args:Array Operand}{ts:Array TypeId}{w:World}{ρ:Operand→Value}(hy:ρ y = .iface tp (.pointer (some A)))(ho:o.op = .call ⟨.invoke y name,args,ts⟩)(hm:Meth P tp name g)(hg:Ent P g):(execOp ρ o).run P w = .ok (.enter g (.pointer (some A)::args.toList.map ρ).toArray) w:=by
 have h1:=hm A w;have h2:=hg (#[.pointer (some A)]++args.map ρ) w;have e3:(#[Value.iface tp (.pointer (some A))]++args.map ρ).extract 1 (#[Value.iface tp (.pointer (some A))]++args.map ρ).size=args.map ρ:=by
  apply Array.ext';simp [List.take_of_length_le]
 have e4:(#[Value.iface tp (.pointer (some A))]++args.map ρ)[0]?=some (.iface tp (.pointer (some A))):=by
  rw [Array.getElem?_append_left (by simp)];rfl
 have e5:(#[Value.pointer (some A)]++args.map ρ)=(Value.pointer (some A)::args.toList.map ρ).toArray:=by
  apply Array.ext'
  first|rfl|simp|(rw [Array.toList_append];rfl)|(rw [Array.toList_append,Array.toList_map];rfl)
 rw [e5] at h2;simp only [execOp,ho,resolve,hy,invoke,Sem.run_bind,Sem.run_pure,Result.andThen_ok,e4,e3,callMethod,run_program,h1,e5,h2]
theorem Mk {g:FuncId}{tp:TypeId}{name:String}{bb:Nat}{y:Operand}{args:Array Operand}{ts:Array TypeId}{avs:List AV}{Hin:List Res}{Q I:Type}{z:Option Q}{A:Q→I→AV}{B:Q→I→List Res}{r:Q}(js:List Nat)(hm:Meth P tp name g)(hg:Ent P g)(hy:arg fr y=some (.ifc tp (.lit (.pointer (some ⟨bb,0,none⟩)))))(hp:Hands P g (.lit (.pointer (some ⟨bb,0,none⟩))::avs) Hin z A B)(hz:z=some r)(hpk:S.pickR H js=Hin)(ha:ArgsS fr args.toList avs)(hdn:Nat.blt d n=true)
  (h:∀ ι,SimL P f n ops l k ((d,A r ι)::fr) (B r ι++restR H js) x X K):SimL P f n ops (⟨some d,.call ⟨.invoke y name,args,ts⟩,ty,pos,aft,none⟩::l) k fr H x X K:=by
 intro is hs r' hr w0 F0 Z0 w F Z tmps hn hi hf
 cases is with
 | nil=>simp at hs
 | cons i is =>
  simp only [List.map_cons,List.cons.injEq] at hs;have hdn':d<n:=by simpa [Nat.blt_eq] using hdn
  have all:∀ {x:Operand} {a:AV},arg fr x=some a→a.p Z w ((⟨tmps,[]⟩:Act).eval x):=by
   intro x a hx
   cases x with
   | tmp t=>exact hf t a hx
   | const v=>simp [arg] at hx;subst hx;rfl
   | func g=>simp [arg] at hx;subst hx;rfl
   | global g=>simp [arg] at hx;subst hx;rfl
  have hargs:=argsS_ok (ρ:=(⟨tmps,[]⟩:Act).eval) ha fun {x a} _ hx=>all hx
  obtain ⟨u,hu,hu2⟩:=all hy;have hu3:u = .pointer (some ⟨bb,0,none⟩):=hu2;subst hu3;obtain ⟨F1,F2,h1,h2,d1,d2⟩:=hi.res.part js;have hin:Inv w w F1 Z F1 Z Hin:=⟨Base.refl _ _,fun _ x=>x,fun b hb=>⟨(hi.zin b hb).1,.inl hb⟩,fun b hb=>⟨(hi.fin b (d1 b hb).1).1,.inl hb,(hi.fin b (d1 b hb).1).2.2⟩,hpk ▸ h1⟩
  refine .enter hs.1 (wanted_none rfl) (call_runI hu rfl hm hg) (hp r hz w F1 Z _ (.cons rfl hargs) hin) ?_;rintro e w'' ⟨v,rfl,F',Z',av,H',⟨ι,rfl,rfl⟩,hinv,hv⟩;refine ⟨v,rfl,?_⟩;have s:Step w w'' F1:=⟨hinv.base.os,hinv.base.tape,hinv.base.output,hinv.base.drawn,hinv.base.size,fun b hb hn=>hinv.base.keep b hb hn⟩
  have hk:Keep Z w w'':=hi.keepZ s fun b hb=>(d1 b hb).1
  have hzF:∀ b,Z' b→F2 b→False:=fun b hz hF=>by
   rcases (hinv.zin b hz).2 with y|y|y
   ·exact (hi.fin b (d2 b hF)).2.2 y
   ·exact (d1 b y).2 hF
   ·have:=(hi.fin b (d2 b hF)).1;omega
  refine h ι is hs.2 r' hr w0 F0 Z0 w'' (fun b=>F' b∨F2 b) Z' _ (by simpa [putT] using hn) ?_ ((hf.st hinv.z0 hk).put (by omega) hv);refine hi.step s (fun b hb=>(d1 b hb).1) hinv.z0 (fun b hb=>?_) (fun b hb=>?_) (hinv.res.append (h2.st hinv.z0 fun b hb=>s.keep b (hb.elim (fun x=>(hi.zin b x).1) (fun x=>(hi.fin b (d2 b x)).1)) fun hF=>?_) fun b hb hF=>?_)
  ·have:=hinv.zin b hb;rcases this.2 with y|y|y
   ·exact .inl y
   ·exact .inr (.inl (d1 b y).1)
   ·exact .inr (.inr ⟨y,this.1⟩)
  ·rcases hb with hb|hb
   ·have:=hinv.fin b hb;exact ⟨this.2.1.elim (fun z=>.inl (d1 b z).1) fun z=>.inr ⟨z,this.1⟩,this.2.2⟩
   ·exact ⟨.inl (d2 b hb),fun hz=>hzF b hz hb⟩
  ·rcases hb with x|x
   ·exact (hi.fin b (d1 b hF).1).2.2 x
   ·exact (d1 b hF).2 x
  ·have:=hinv.fin b hb;rcases this.2.1 with y|y
   ·exact (d1 b y).2 hF
   ·have:=(hi.fin b (d2 b hF)).1;omega
theorem pi {g:FuncId}{tp:TypeId}{name:String}{bb:Nat}{y:Operand}{args:Array Operand}{ts:Array TypeId}{a0:AV}{avs:List AV}{Q:Type}{z:Option Q}{en:Q→AV}{r:Q}(hm:Meth P tp name g)(hg:Ent P g)(hy:arg fr y=some (.ifc tp (.lit (.pointer (some ⟨bb,0,none⟩)))))(hp:Pure P g (a0::avs) z en)(hz:z=some r)(hfl:Flat (en r))
  (h0:∀ {Z F:Nat→Prop} {w:World} {u:Value},HAll H Z w F→(AV.lit (.pointer (some ⟨bb,0,none⟩))).p Z w u→a0.p (fun b=>Z b∨F b) w u) (ha:Args fr H args.toList avs):D P n H (.call ⟨.invoke y name,args,ts⟩) ty fr (en r):=by
 intro o ho hty w0 F0 Z0 w F Z tmps hn hi hf;have hargs:=args_ok (ρ:=(⟨tmps,[]⟩:Act).eval) ha hi.res fun {x a} hm hx=>arg_ok hf hx (by simp [Op.operands,Call.operands];exact .inr (by simpa using hm))
 obtain ⟨u,hu,hu2⟩:=arg_ok hf hy (by simp [Op.operands,Call.operands]);have hu3:u = .pointer (some ⟨bb,0,none⟩):=hu2;subst hu3;refine .inr ⟨g,_,w,_,call_runI hu ho hm hg,hp r hz w (fun _=>False) (fun b=>Z b∨F b) _ (.cons (h0 hi.res rfl) hargs) ⟨Base.refl _ _,fun _ x=>x,fun b hb=>⟨hb.elim (fun x=>(hi.zin b x).1) (fun x=>(hi.fin b x).1),.inl hb⟩,fun _ x=>x.elim,trivial⟩,?_⟩;rintro e w'' ⟨v,rfl,F',Z',av,H',⟨rfl,rfl⟩,hinv,hv⟩;exact ⟨v,rfl,Z,fun _ x=>x,fun _ x=>.inl x,⟨hinv.base.os,hinv.base.tape,hinv.base.output,hinv.base.drawn,hinv.base.size,fun b hb _=>hinv.base.keep b hb id⟩,hfl _ _ _ _ _ hv⟩
theorem dTAy {y:Operand}{a:AV}{xt:TypeId}(ht:NoIface P t)(hy:arg fr y=some (.ifc t a)):D P n H (.typeAssert y xt t true) ty fr (.tup [a,Ab true]) :=
 .of fun o ho hty w Z F ρ _ hf=>by
  obtain ⟨u,h1,h2⟩:=ht;obtain ⟨q,e,hq⟩:=hf (by simp [Op.operands]) hy;have hr:(Instr.typeAssert (.iface t q) xt t true).run P w = .ok (.tuple #[q,.bool true]) w:=by
   simp only [Instr.typeAssert,Sem.run_bind,run_underlying h1,Result.andThen_ok];cases u <;> first | simp [Sem.run_pure] | exact absurd rfl (h2 _)
  exact ⟨_,by simp [execOp,ho,e,hr,Sem.run_bind],[q,.bool true],rfl,.cons hq (.cons rfl .nil)⟩
theorem dTAn {y:Operand}{a:AV}{xt:TypeId}{v0:Value}(ht:NoIface P t)(hne:¬ t'=t)(hz:∀ w,(zeroValue t).run P w = .ok v0 w)(hy:arg fr y=some (.ifc t' a)):D P n H (.typeAssert y xt t true) ty fr (.tup [.lit v0,Ab false]) :=
 .of fun o ho hty w Z F ρ _ hf=>by
  obtain ⟨u,h1,h2⟩:=ht;obtain ⟨q,e,hq⟩:=hf (by simp [Op.operands]) hy;have hr:(Instr.typeAssert (.iface t' q) xt t true).run P w = .ok (.tuple #[v0,.bool false]) w:=by
   simp only [Instr.typeAssert,Sem.run_bind,run_underlying h1,Result.andThen_ok];cases u <;> first | simp [Sem.run_pure,hne,Sem.run_bind,hz w] | exact absurd rfl (h2 _)
  exact ⟨_,by simp [execOp,ho,e,hr,Sem.run_bind],[v0,.bool false],rfl,.cons rfl (.cons rfl .nil)⟩
theorem sUnr {id:Nat}{c:Code}(h:Sim P f n (.code c :: .inLoop c :: .inBlock id::k) fr H x X K):Sim P f n (.code (.block id (.loop c))::k) fr H x X K:=fun r hr w0 F0 Z0 w F Z tmps hn hi hf=>.block (.loop (h r hr w0 F0 Z0 w F Z tmps hn hi hf))
theorem jm {c:Code}(h:Sim P f n (.code c :: .inLoop c::k) fr H x X K):Sim P f n (.inLoop c::k) fr H x X K:=fun r hr w0 F0 Z0 w F Z tmps hn hi hf=>.inLoop (h r hr w0 F0 Z0 w F Z tmps hn hi hf)
theorem bn {x y:Operand}{kd:IntKind}{i:Int}{m:Nat}{aS:List AV}{a:AV}(ht:P.underlying t=some (.array m e))(hs:SizeIs P e 1)(hg:IsAgg P e false)(hm:aS.length=m)(hx:arg fr x=some (.agg aS))(hy:arg fr y=some (Ai kd i))(h0:0≤i)(h1:i<aS.length)(ha:aS[i.toNat]?=some a):D P n H (.index t x y) ty fr a :=
 .of fun o ho hty w Z F ρ _ hf=>by
  obtain ⟨vs,e1,hv⟩:=hf (by simp [Op.operands]) hx;have e2:ρ y=_:=hf (by simp [Op.operands]) hy;obtain ⟨v,hv1,hv2⟩:=hv.get ha;have hp:=part_one (P:=P) (w:=w) hg hv1;have h1':i<(m:Int):=by omega
  exact ⟨_,by simp [execOp,ho,e1,e2,Instr.index,run_underlying ht,Sem.run_bind,asIntOf,h0,h1',hs w,hp],hv2⟩
theorem sKn {kd:IntKind}{u:Nat}{a b:Int}(hu:look fr u=some (Ai kd a))(hab:a=b)(h:SimL P f n ops l k ((u,Ai kd b)::fr) H x X K):SimL P f n ops l k fr H x X K:=by
 subst hab;intro is hs r hr w0 F0 Z0 w F Z tmps hn hi hf;refine h is hs r hr w0 F0 Z0 w F Z tmps hn hi fun t a' ht=>?_
 simp only [look] at ht
 by_cases e:u=t
 ·subst e;simp at ht;subst ht;exact hf _ _ hu
 ·have:(u == t)=false:=by simpa using e
  rw [this] at ht;exact hf t a' (by simpa using ht)
end
end S
namespace S
open Go.RowKit
theorem P0:∀ {A fr:Fr},(A.map fun p=>look fr p.1)=A.map (fun p=>some p.2)→Sub A fr
 | [],_,_=>trivial
 | (_,_)::_,_,h=>⟨(List.cons.inj h).1,P0 (List.cons.inj h).2⟩
theorem sSx {k m:Nat}(h:k<m):∃ q,m=q+1:=⟨m-1,by omega⟩
section
variable {P:Program}{f:FuncId}{n:Nat}{ops:Array Oper}{k:List Item}{fr:Fr}{H:List Res}{ρ R:Type}{x:Option ρ}{X:ρ→Option R}{K:R→AV→List Res→Prop}
theorem f9 {id:Nat}{l l':List Oper}{fr':Fr}(m:Nat)(hm:P.follows .mixedOrders=true)(hl:ops.toList=l)(hb:(backOk ops && (lateOk ops m && apartOk ops m))=true)(hq:QL P n H ops fr l fr' l')(hlen:l'.length+m=l.length)
  (h:SimL P f n ops l' k fr' H x X K):Sim P f n (.code (.region id ops true)::k) fr H x X K:=by
 simp only [Bool.and_eq_true] at hb;exact Jm m hm hl hb.1 hb.2.1 hb.2.2 hq hlen h
end
end S
end Go.Proofs.YtcoineklodmbnaaGreat

