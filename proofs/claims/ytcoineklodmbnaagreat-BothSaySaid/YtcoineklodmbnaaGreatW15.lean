import Derived.Test.YtcoineklodmbnaaGreatW14
set_option linter.unusedVariables false
set_option linter.unusedSimpArgs false
namespace Go.Proofs.YtcoineklodmbnaaGreat
open S
set_option maxRecDepth 10000
def sg (X:List L1)(k r c:Nat):List Int:=rd (rd (rd X (k:Int)).begun (r:Int)) (c:Int)
def NS (X:List L1):Sp:=fun x i k=>bit (rd (rd X (k:Int)).names x) i=true
def BS (X:List L1)(r c m i k:Nat):Prop:=bit (rd (sg X k r c) (m:Int)) i=true
structure Shp (g:Grammar)(X:List L1):Prop where
 n1:∀ k,k<X.length→(rd X (k:Int)).names.length=g.Names.length
 n2:∀ k,k<X.length→∀ x:Nat,x<g.Names.length→okW (rd (rd X (k:Int)).names (x:Int))
 b1:∀ k,k<X.length→(rd X (k:Int)).begun.length=g.Rules.length
 b2:∀ k,k<X.length→∀ r,r<g.Rules.length→(rd (rd X (k:Int)).begun (r:Int)).length=nc g r
 b3:∀ k,k<X.length→∀ r,r<g.Rules.length→∀ c,c<nc g r→(sg X k r c).length=(sq g r c).length+1
 b4:∀ k,k<X.length→∀ r,r<g.Rules.length→∀ c,c<nc g r→∀ m:Nat,m≤(sq g r c).length→okW (rd (sg X k r c) (m:Int))
def setB (X:List L1)(j r c m:Nat)(v:Int):List L1:=X.set j ⟨(rd X (j:Int)).names,(rd X (j:Int)).begun.set r ((rd (rd X (j:Int)).begun (r:Int)).set c ((rd (rd (rd X (j:Int)).begun (r:Int)) (c:Int)).set m v))⟩
def setN (X:List L1)(j x:Nat)(v:Int):List L1:=X.set j ⟨(rd X (j:Int)).names.set x v,(rd X (j:Int)).begun⟩
theorem setB_len (X:List L1)(j r c m:Nat)(v:Int):(setB X j r c m v).length=X.length:=by simp [setB]
theorem setN_len (X:List L1)(j x:Nat)(v:Int):(setN X j x v).length=X.length:=by simp [setN]
theorem setB_nm (X:List L1)(j r c m:Nat)(v:Int)(k:Nat):(rd (setB X j r c m v) (k:Int)).names=(rd X (k:Int)).names:=by
 unfold setB;rw [rd_set']
 split
 ·rename_i h;rw [← h.1]
 ·rfl
theorem setN_bg (X:List L1)(j x:Nat)(v:Int)(k:Nat):(rd (setN X j x v) (k:Int)).begun=(rd X (k:Int)).begun:=by
 unfold setN;rw [rd_set']
 split
 ·rename_i h;rw [← h.1]
 ·rfl
theorem setN_sg (X:List L1)(j x:Nat)(v:Int)(k r c:Nat):sg (setN X j x v) k r c=sg X k r c:=by unfold sg;rw [setN_bg]
theorem setB_row {X:List L1}{j r c m:Nat}{v:Int}(hj:j<X.length)(hr:r<(rd X (j:Int)).begun.length)(k r':Nat):rd (rd (setB X j r c m v) (k:Int)).begun (r':Int)=if k=j∧r'=r then (rd (rd X (j:Int)).begun (r:Int)).set c ((sg X j r c).set m v) else rd (rd X (k:Int)).begun (r':Int):=by
 unfold setB;rw [rd_set']
 by_cases h:j=k
 ·subst h;rw [if_pos ⟨rfl,hj⟩];show rd (List.set _ _ _) _=_;rw [rd_set']
  by_cases h2:r=r'
  ·subst h2;rw [if_pos ⟨rfl,hr⟩,if_pos ⟨rfl,rfl⟩];rfl
  ·rw [if_neg (fun x=>h2 x.1),if_neg (fun x=>h2 x.2.symm)]
 ·rw [if_neg (fun x=>h x.1),if_neg (fun x=>h x.1.symm)]
theorem setB_sg {X:List L1}{j r c m:Nat}{v:Int}(hj:j<X.length)(hr:r<(rd X (j:Int)).begun.length)(hc:c<(rd (rd X (j:Int)).begun (r:Int)).length)(k r' c':Nat):sg (setB X j r c m v) k r' c'=if k=j∧r'=r∧c'=c then (sg X j r c).set m v else sg X k r' c':=by
 show rd (rd (rd (setB X j r c m v) (k:Int)).begun (r':Int)) (c':Int)=_;rw [setB_row hj hr]
 by_cases h:k=j∧r'=r
 ·rw [if_pos h,rd_set']
  by_cases h2:c=c'
  ·rw [if_pos ⟨h2,hc⟩,if_pos ⟨h.1,h.2,h2.symm⟩]
  ·rw [if_neg (fun x=>h2 x.1),if_neg (fun x=>h2 x.2.2.symm),h.1,h.2];rfl
 ·rw [if_neg h,if_neg (fun x=>h ⟨x.1,x.2.1⟩)];rfl
theorem setB_bl {X:List L1}{j r c m:Nat}{v:Int}(k:Nat):(rd (setB X j r c m v) (k:Int)).begun.length=(rd X (k:Int)).begun.length:=by
 unfold setB;rw [rd_set']
 split
 ·rename_i h;rw [← h.1];simp
 ·rfl
theorem setB_shp {g:Grammar}{X:List L1}(h:Shp g X){j r c m:Nat}{v:Int}(hj:j<X.length)(hr:r<g.Rules.length)(hc:c<nc g r)(hv:okW v):Shp g (setB X j r c m v):=by
 have hr':r<(rd X (j:Int)).begun.length:=by rw [h.b1 j hj];exact hr
 have hc':c<(rd (rd X (j:Int)).begun (r:Int)).length:=by rw [h.b2 j hj r hr];exact hc
 refine ⟨fun k hk=>?_,fun k hk x hx=>?_,fun k hk=>?_,fun k hk r' h1=>?_,fun k hk r' h1 c' h2=>?_,fun k hk r' h1 c' h2 m' h3=>?_⟩
 all_goals rw [setB_len] at hk
 ·rw [setB_nm];exact h.n1 k hk
 ·rw [setB_nm];exact h.n2 k hk x hx
 ·rw [setB_bl];exact h.b1 k hk
 ·rw [setB_row hj hr']
  split
  ·rename_i e;rw [List.length_set,e.2];exact h.b2 j hj r hr
  ·exact h.b2 k hk r' h1
 ·rw [setB_sg hj hr' hc']
  split
  ·rename_i e;rw [List.length_set,e.2.1,e.2.2];exact h.b3 j hj r hr c hc
  ·exact h.b3 k hk r' h1 c' h2
 ·rw [setB_sg hj hr' hc']
  split
  ·rename_i e;rw [rd_set']
   split
   ·exact hv
   ·rw [e.2.1,e.2.2] at h3;exact h.b4 j hj r hr c hc m' h3
  ·exact h.b4 k hk r' h1 c' h2 m' h3
theorem setB_BS {g:Grammar}{X:List L1}(h:Shp g X){j r c m i:Nat}(hj:j<X.length)(hr:r<g.Rules.length)(hc:c<nc g r)(hm:m≤(sq g r c).length)(hi:i<64)(r' c' m' i' k:Nat) :
  BS (setB X j r c m (ior .u64 (rd (sg X j r c) (m:Int)) (ishl .u64 1 (i:Int)))) r' c' m' i' k↔BS X r' c' m' i' k∨(k=j∧r'=r∧c'=c∧m'=m∧i'=i):=by
 have hr':r<(rd X (j:Int)).begun.length:=by rw [h.b1 j hj];exact hr
 have hc':c<(rd (rd X (j:Int)).begun (r:Int)).length:=by rw [h.b2 j hj r hr];exact hc
 unfold BS;rw [setB_sg hj hr' hc']
 by_cases e:k=j∧r'=r∧c'=c
 ·rw [if_pos e,rd_set']
  by_cases e2:m=m'
  ·subst e2;rw [if_pos ⟨rfl,by rw [h.b3 j hj r hr c hc];omega⟩,or_bit (h.b4 j hj r hr c hc m hm) hi,e.1,e.2.1,e.2.2];simp
  ·rw [if_neg (fun x=>e2 x.1),e.1,e.2.1,e.2.2];exact ⟨.inl,fun x=>x.elim id fun y=>(e2 y.2.2.2.1.symm).elim⟩
 ·rw [if_neg e];exact ⟨.inl,fun x=>x.elim id fun y=>(e ⟨y.1,y.2.1,y.2.2.1⟩).elim⟩
theorem setB_NS (X:List L1)(j r c m:Nat)(v:Int):NS (setB X j r c m v)=NS X:=by
 funext x i k;unfold NS;rw [setB_nm]
theorem setN_shp {g:Grammar}{X:List L1}(h:Shp g X){j x:Nat}{v:Int}(hj:j<X.length)(hv:okW v):Shp g (setN X j x v):=by
 refine ⟨fun k hk=>?_,fun k hk x' hx'=>?_,fun k hk=>?_,fun k hk r' h1=>?_,fun k hk r' h1 c' h2=>?_,fun k hk r' h1 c' h2 m' h3=>?_⟩
 all_goals rw [setN_len] at hk
 ·unfold setN;rw [rd_set']
  split
  ·simp only [List.length_set];exact h.n1 j hj
  ·exact h.n1 k hk
 ·unfold setN;rw [rd_set']
  split
  ·simp only [rd_set']
   split
   ·exact hv
   ·exact h.n2 j hj x' hx'
  ·exact h.n2 k hk x' hx'
 ·rw [setN_bg];exact h.b1 k hk
 ·rw [setN_bg];exact h.b2 k hk r' h1
 ·rw [setN_sg];exact h.b3 k hk r' h1 c' h2
 ·rw [setN_sg];exact h.b4 k hk r' h1 c' h2 m' h3
theorem NS_neg {X:List L1}{x:Int}{i k:Nat}(h:x<0):NS X x i k↔NS X 0 i k:=by
 unfold NS;have:rd (rd X (k:Int)).names x=rd (rd X (k:Int)).names 0:=by simp [rd,Int.toNat_of_nonpos (Int.le_of_lt h)]
 rw [this]
theorem setN_NS {g:Grammar}{X:List L1}(h:Shp g X){j x i:Nat}(hj:j<X.length)(hx:x<g.Names.length)(hi:i<64)(y i' k:Nat) :
  NS (setN X j x (ior .u64 (rd (rd X (j:Int)).names (x:Int)) (ishl .u64 1 (i:Int)))) (y:Int) i' k↔NS X (y:Int) i' k∨(k=j∧y=x∧i'=i):=by
 unfold NS setN;rw [rd_set']
 by_cases e:j=k
 ·subst e;rw [if_pos ⟨rfl,hj⟩];show bit (rd (List.set _ _ _) _) _=true↔_;rw [rd_set']
  by_cases e2:x=y
  ·subst e2;rw [if_pos ⟨rfl,by rw [h.n1 j hj];exact hx⟩,or_bit (h.n2 j hj x hx) hi];simp
  ·rw [if_neg (fun z=>e2 z.1)];exact ⟨.inl,fun z=>z.elim id fun y=>(e2 y.2.1.symm).elim⟩
 ·rw [if_neg (fun z=>e z.1)];exact ⟨.inl,fun z=>z.elim id fun y=>(e y.1.symm).elim⟩
def RC (X:List L1)(g:Grammar)(w:List Int)(r c m i j:Nat):Prop :=
 (m=0∧i=j)∨∃ m',m=m'+1∧∃ k,i≤k∧k≤j∧BS X r c m' i k∧SymS (NS X) (wf w) (rd (sq g r c) (m':Int)) k j
theorem reaches_spec (K:Nat)(hK:200000≤K)(g:Grammar)(xs w:List Int)(X:List L1)(hx:CX g xs w)(h:Shp g X)(hl:X.length=w.length+1)(r c m i:Nat)(hr:r<g.Rules.length)(hc:c<nc g r)(hm:m≤(sq g r c).length)(hi:i≤w.length) :
  ∃ b,V6 K ⟨g,xs,w,X⟩ r c m i=some b∧(b=true↔RC X g w r c m i w.length):=by
 have q1:=hx.wl;have q2:=hx.rl;have q3:=hx.cl hr;have q4:=hx.ql hr hc;unfold V6;dsimp only
 cases m with
 | zero =>
  rw [if_pos (show ((0:Nat):Int)=0 from rfl)];refine ⟨_,rfl,?_⟩;simp only [decide_eq_true_eq,RC];constructor
  ·intro e;exact .inl ⟨trivial,by omega⟩
  ·rintro (⟨_,e⟩|⟨m',e,_⟩)
   ·rw [e]
   ·omega
 | succ m =>
  have em:IntKind.wrap .i64 (((m+1:Nat):Int)-1)=(m:Int):=by rw [wr (by omega) (by omega)];omega
  have hc':(c:Int)<((rd g.Rules (r:Int)).Conj.length:Int):=by have:c<(rd g.Rules (r:Int)).Conj.length:=hc;omega
  have hm':(m:Int)<((rd (rd g.Rules (r:Int)).Conj (c:Int)).Seq.length:Int):=by have:m<(rd (rd g.Rules (r:Int)).Conj (c:Int)).Seq.length:=hm;omega
  rw [if_neg (by omega)];simp only [em];rw [if_pos (by omega),if_pos (by omega),if_pos (by omega),if_pos hc',if_pos (by omega),if_pos hm'];have hRC:RC X g w r c (m+1) i w.length↔∃ k,i≤k∧k≤w.length∧BS X r c m i k∧SymS (NS X) (wf w) (rd (sq g r c) (m:Int)) k w.length:=by
   constructor
   ·rintro (⟨e,_⟩|⟨m',e,hh⟩)
    ·omega
    ·have:m'=m:=by omega
     subst this;exact hh
   ·intro hh;exact .inr ⟨m,rfl,hh⟩
  rw [hRC]
  by_cases hn:(rd (sq g r c) (m:Int)).Name<0
  ·rw [if_pos hn];have hS:∀ k,SymS (NS X) (wf w) (rd (sq g r c) (m:Int)) k w.length↔(w.length=k+1∧(rd (sq g r c) (m:Int)).Lo≤wf w k∧wf w k≤(rd (sq g r c) (m:Int)).Hi):=fun k=>by unfold SymS;rw [if_neg (by omega)]
   by_cases hlt:(i:Int)<(w.length:Int)
   ·have ew:IntKind.wrap .i64 ((w.length:Int)-1)=((w.length-1:Nat):Int):=by rw [wr (by omega) (by omega)];omega
    have hb:=hx.wb (w.length-1) (by omega);rw [if_pos hlt];simp only [ew];rw [if_pos (by omega),if_pos (by omega),wr (by omega) (by omega)]
    by_cases h1:(rd (sq g r c) (m:Int)).Lo≤rd w ((w.length-1:Nat):Int)
    ·rw [if_pos h1]
     by_cases h2:rd w ((w.length-1:Nat):Int)≤(rd (sq g r c) (m:Int)).Hi
     ·have s1:=h.b1 (w.length-1) (by omega);have s2:=h.b2 (w.length-1) (by omega) r hr;have s3:=h.b3 (w.length-1) (by omega) r hr c hc;unfold sg at s3;rw [if_pos h2,if_pos (by omega),if_pos (by rw [s1];omega),if_pos (by rw [s2];omega),if_pos (by rw [s3];omega),if_pos (by omega)];rw [Option.bind_some];refine ⟨_,rfl,?_⟩;have s4:=h.b4 (w.length-1) (by omega) r hr c hc m (by omega);unfold sg at s4;rw [shr1 s4 i,decide_eq_true_eq,iff1 (p:=True) (by decide)];constructor
      ·intro hbit;exact ⟨w.length-1,by omega,by omega,hbit,(hS _).2 ⟨by omega,h1,h2⟩⟩
      ·rintro ⟨k,k1,k2,k3,k4⟩;have:=((hS k).1 k4).1;have ek:k=w.length-1:=by omega
       subst ek;exact k3
     ·rw [if_neg h2,Option.bind_some];refine ⟨_,rfl,?_⟩;constructor
      ·intro e;cases e
      ·rintro ⟨k,k1,k2,k3,k4⟩;obtain ⟨p1,p2,p3⟩:=(hS k).1 k4;have ek:k=w.length-1:=by omega
       subst ek;exact (h2 p3).elim
    ·rw [if_neg h1,Option.bind_some];refine ⟨_,rfl,?_⟩;constructor
     ·intro e;cases e
     ·rintro ⟨k,k1,k2,k3,k4⟩;obtain ⟨p1,p2,p3⟩:=(hS k).1 k4;have ek:k=w.length-1:=by omega
      subst ek;exact (h1 p2).elim
   ·rw [if_neg hlt,Option.bind_some];refine ⟨_,rfl,?_⟩;constructor
    ·intro e;cases e
    ·rintro ⟨k,k1,k2,k3,k4⟩;have:=((hS k).1 k4).1;omega
  ·rw [if_neg hn];have hsy:=hx.sy hr hc (show m<(sq g r c).length by omega);have hS:∀ k,SymS (NS X) (wf w) (rd (sq g r c) (m:Int)) k w.length↔NS X (rd (sq g r c) (m:Int)).Name k w.length:=fun k=>by unfold SymS;rw [if_pos (by omega)]
   obtain ⟨s,es⟩:∃ s:Nat,(rd (sq g r c) (m:Int)).Name=(s:Int):=⟨(rd (sq g r c) (m:Int)).Name.toNat,by omega⟩
   have key:=rounds (σ:=Int) (ρ:=Int ⊕ Bool) (L:=V6.l0 K ⟨g,xs,w,X⟩ r c ((m+1:Nat):Int) i)
    (fun k=>∃ q:Nat,k=(q:Int)∧i≤q∧q≤w.length+1∧∀ k:Nat,i≤k→k<q→¬ (BS X r c m i k∧SymS (NS X) (wf w) (rd (sq g r c) (m:Int)) k w.length)) (fun k=>(w.length+1-k.toNat))
    (fun ρ=>(ρ = .inr true∧∃ k,i≤k∧k≤w.length∧BS X r c m i k∧SymS (NS X) (wf w) (rd (sq g r c) (m:Int)) k w.length)∨(∃ q,ρ = .inl q)∧¬ ∃ k,i≤k∧k≤w.length∧BS X r c m i k∧SymS (NS X) (wf w) (rd (sq g r c) (m:Int)) k w.length) ?_ K (i:Int) ⟨i,rfl,Nat.le_refl _,by omega,fun k h1 h2=>by omega⟩ (by omega)
   ·obtain ⟨ρ,e1,hρ⟩:=key;rw [e1];rcases hρ with ⟨e,hh⟩|⟨⟨q,e⟩,hh⟩
    ·subst e;exact ⟨true,rfl,by simpa using hh⟩
    ·subst e;exact ⟨false,rfl,⟨fun e=>(by cases e),fun e=>(hh e).elim⟩⟩
   ·rintro k mm ⟨q,rfl,k1,k2,k3⟩;simp only [V6.l0]
    by_cases hq:(q:Int)≤(w.length:Int)
    ·have s1:=h.b1 q (by omega);have s2:=h.b2 q (by omega) r hr;have s3:=h.b3 q (by omega) r hr c hc;have s4:=h.b4 q (by omega) r hr c hc m (by omega);unfold sg at s3 s4;have n1:=h.n1 w.length (by omega);have n2:=h.n2 w.length (by omega) s (by omega);have e1:IntKind.wrap .i64 ((q:Int)+1)=((q+1:Nat):Int):=by rw [wr (by omega) (by omega)];omega
     simp only [em,e1];rw [if_pos hq,if_pos (by omega),if_pos (by omega),if_pos (by rw [s1];omega),if_pos (by rw [s2];omega),if_pos (by rw [s3];omega),if_pos (by omega),shr1 s4 i];have no:∀ p:Prop,(¬ (BS X r c m i q∧SymS (NS X) (wf w) (rd (sq g r c) (m:Int)) q w.length))→∃ s',(∃ q':Nat,s'=(q':Int)∧i≤q'∧q'≤w.length+1∧∀ k:Nat,i≤k→k<q'→¬ (BS X r c m i k∧SymS (NS X) (wf w) (rd (sq g r c) (m:Int)) k w.length))∧(w.length+1-s'.toNat)<(w.length+1-(q:Int).toNat)∧V6.l0 K ⟨g,xs,w,X⟩ r c ((m+1:Nat):Int) i mm ((q+1:Nat):Int)=V6.l0 K ⟨g,xs,w,X⟩ r c ((m+1:Nat):Int) i mm s':=fun _ hno=>by
      refine ⟨((q+1:Nat):Int),⟨q+1,rfl,by omega,by omega,fun k h1 h2=>?_⟩,by omega,rfl⟩
      by_cases ek:k=q
      ·subst ek;exact hno
      ·exact k3 k h1 (by omega)
     by_cases hb:bit (rd (sg X q r c) (m:Int)) i=true
     ·have hb':=hb;unfold sg at hb';rw [if_pos hb',if_pos rfl,if_pos (by omega),if_pos (by show 0≤(rd (sq g r c) (m:Int)).Name;omega),if_pos (by show (rd (sq g r c) (m:Int)).Name<_;rw [n1];omega)];have ebit:(iand .u64 (ishr .u64 (rd ((rd X (w.length:Int)).names) ((rd ((rd ((rd g.Rules (r:Int)).Conj) (c:Int)).Seq) (m:Int)).Name)) (q:Int)) 1)=if bit (rd ((rd X (w.length:Int)).names) (rd (sq g r c) (m:Int)).Name) q=true then 1 else 0:=by
       show (iand .u64 (ishr .u64 (rd ((rd X (w.length:Int)).names) (rd (sq g r c) (m:Int)).Name) (q:Int)) 1)=_;rw [es];exact shr1 n2 q
      rw [ebit]
      by_cases hb2:bit (rd ((rd X (w.length:Int)).names) (rd (sq g r c) (m:Int)).Name) q=true
      ·rw [if_pos hb2,if_pos rfl];exact .inl ⟨_,rfl,.inl ⟨rfl,q,k1,by omega,hb,(hS q).2 hb2⟩⟩
      ·rw [if_neg hb2,if_neg (by decide)];exact .inr (no True fun hh=>hb2 ((hS q).1 hh.2))
     ·have hb':=hb;unfold sg at hb';rw [if_neg hb',if_neg (by decide)];exact .inr (no True fun hh=>hb hh.1)
    ·rw [if_neg hq];refine .inl ⟨_,rfl,.inr ⟨⟨_,rfl⟩,?_⟩⟩;rintro ⟨k,h1,h2,h3,h4⟩;exact k3 k h1 (by omega) ⟨h3,h4⟩
theorem RC_seq {g:Grammar}{X:List L1}{w:List Int}{r c m i j:Nat}(hm:m≤(sq g r c).length)(hij:i≤j)(hp:∀ m',m=m'+1→∀ k,i≤k→k≤j→(BS X r c m' i k↔SeqS (NS X) (wf w) ((sq g r c).take m') i k)):RC X g w r c m i j↔SeqS (NS X) (wf w) ((sq g r c).take m) i j:=by
 cases m with
 | zero =>
  constructor
  ·rintro (⟨_,e⟩|⟨m',e,_⟩)
   ·exact e
   ·omega
  ·intro e;exact .inl ⟨rfl,e⟩
 | succ m =>
  rw [take_succ_rd (by omega),SeqS_snoc];constructor
  ·rintro (⟨e,_⟩|⟨m',e,k,h1,h2,h3,h4⟩)
   ·omega
   ·have:m'=m:=by omega
    subst this;exact ⟨k,h1,h2,(hp m' rfl k h1 h2).1 h3,h4⟩
  ·rintro ⟨k,h1,h2,h3,h4⟩;exact .inr ⟨m,rfl,k,h1,h2,(hp m rfl k h1 h2).2 h3,h4⟩
structure Fr2 (X X':List L1)(j i:Nat)(Q:Nat→Nat→Prop):Prop where
 len:X'.length=X.length
 nm:NS X'=NS X
 bs:∀ r c m i' k,¬ (k=j∧i'=i∧Q r c)→(BS X' r c m i' k↔BS X r c m i' k)
abbrev Full (g:Grammar)(X:List L1)(N:Sp)(w:List Int)(i j r c:Nat):Prop:=∀ m,m≤(sq g r c).length→(BS X r c m i j↔SeqS N (wf w) ((sq g r c).take m) i j)
abbrev Snd (g:Grammar)(X:List L1)(N:Sp)(w:List Int)(i j r c:Nat):Prop:=∀ m,m≤(sq g r c).length→BS X r c m i j→SeqS N (wf w) ((sq g r c).take m) i j
structure Acc (g:Grammar)(w:List Int)(i:Nat)(X X':List L1)(b:Bool)(Q:Nat→Nat→Prop):Prop where
 shp:Shp g X'
 fr:Fr2 X X' w.length i Q
 full:∀ r c,Q r c→Full g X' (NS X) w i w.length r c
 same:b=false→X'=X
 still:(∀ r c,Q r c→Full g X (NS X) w i w.length r c)→b=false
theorem Acc.refl {g:Grammar}{w:List Int}{i:Nat}{X:List L1}(h:Shp g X):Acc g w i X X false fun _ _=>False :=
 ⟨h,⟨rfl,rfl,fun _ _ _ _ _ _=>Iff.rfl⟩,fun _ _ x=>x.elim,fun _=>rfl,fun _=>rfl⟩
theorem Acc.step {g:Grammar}{w:List Int}{i:Nat}{X X1 X2:List L1}{b1 b2:Bool}{Q:Nat→Nat→Prop}{r c:Nat}(h1:Acc g w i X X1 b1 Q)(h2:Acc g w i X1 X2 b2 fun r' c'=>r'=r∧c'=c)(hn:¬ Q r c):Acc g w i X X2 (b1 || b2) fun r' c'=>Q r' c'∨(r'=r∧c'=c):=by
 have e:NS X1=NS X:=h1.fr.nm;refine ⟨h2.shp,⟨h2.fr.len.trans h1.fr.len,h2.fr.nm.trans e,fun r' c' m i' k hh=>?_⟩,fun r' c' hq m hm=>?_,fun hb=>?_,fun hf=>?_⟩
 ·rw [h2.fr.bs r' c' m i' k (fun x=>hh ⟨x.1,x.2.1,.inr x.2.2⟩),h1.fr.bs r' c' m i' k (fun x=>hh ⟨x.1,x.2.1,.inl x.2.2⟩)]
 ·rcases hq with hq|hq
  ·rw [h2.fr.bs r' c' m i w.length (fun x=>hn (x.2.2.1 ▸ x.2.2.2 ▸ hq))];exact h1.full r' c' hq m hm
  ·rw [← e];exact h2.full r' c' hq m hm
 ·cases b1 <;> cases b2 <;> simp at hb
  rw [h2.same rfl,h1.same rfl]
 ·have e1:=h1.still fun r' c' hq=>hf r' c' (.inl hq)
  have e2:=h1.same e1;subst e2;rw [e1,h2.still fun r' c' hq=>hf r' c' (.inr hq)];rfl
theorem Acc.congr {g:Grammar}{w:List Int}{i:Nat}{X X':List L1}{b:Bool}{Q Q':Nat→Nat→Prop}(h:Acc g w i X X' b Q)(e:∀ r c,Q r c↔Q' r c):Acc g w i X X' b Q':=by
 have:Q=Q':=by funext r c;exact propext (e r c)
 rw [← this];exact h
theorem conj_spec (K:Nat)(hK:200000≤K)(g:Grammar)(xs w:List Int)(X:List L1)(hx:CX g xs w)(h:Shp g X)(hl:X.length=w.length+1)(r c i:Nat)(hr:r<g.Rules.length)(hc:c<nc g r)(hi:i≤w.length)
  (hpast:∀ k,i≤k→k<w.length→Full g X (NS X) w i k r c) (hsnd:Snd g X (NS X) w i w.length r c) :
  ∃ b X',M7 K ⟨g,xs,w,X⟩ r c i=some (b,⟨g,xs,w,X'⟩)∧Acc g w i X X' b fun r' c'=>r'=r∧c'=c:=by
 have q1:=hx.wl;have q2:=hx.rl;have q3:=hx.cl hr;have q4:=hx.ql hr hc;have s1:=h.b1 w.length (by omega);have s2:=h.b2 w.length (by omega) r hr;have s3:=h.b3 w.length (by omega) r hr c hc;have s3':=s3;unfold sg at s3';unfold M7;rw [if_pos (by show (w.length:Int)<X.length;omega),if_pos (by omega),if_pos (by show (r:Int)<_;rw [s1];omega),if_pos (by omega),if_pos (by show (c:Int)<_;rw [s2];omega)];have key:=rounds (σ:=List L1×Bool×Int) (ρ:=List L1×Bool×Int) (L:=M7.l0 K ⟨g,xs,w,X⟩ r c i)
  (fun s=>∃ q:Nat,s.2.2=(q:Int)∧q≤(sq g r c).length+1∧Shp g s.1∧Fr2 X s.1 w.length i (fun r' c'=>r'=r∧c'=c)∧(∀ m,m<q→(BS s.1 r c m i w.length↔SeqS (NS X) (wf w) ((sq g r c).take m) i w.length)) ∧
   (∀ m,q≤m→(BS s.1 r c m i w.length↔BS X r c m i w.length))∧(s.2.1=false→s.1=X)∧((∀ m,m≤(sq g r c).length→(BS X r c m i w.length↔SeqS (NS X) (wf w) ((sq g r c).take m) i w.length))→s.2.1=false))
  (fun s=>(sq g r c).length+1-s.2.2.toNat)
  (fun ρ=>Acc g w i X ρ.1 ρ.2.1 fun r' c'=>r'=r∧c'=c) ?_ K (X,false,0) ⟨0,rfl,by omega,h,⟨rfl,rfl,fun _ _ _ _ _ _=>Iff.rfl⟩,fun m hm=>by omega,fun m _=>Iff.rfl,fun _=>rfl,fun _=>rfl⟩ (by simp;omega)
 ·obtain ⟨⟨Y,b,t⟩,e1,hρ⟩:=key;rw [e1];exact ⟨b,Y,rfl,hρ⟩
 ·rintro ⟨Y,b,t⟩ mm ⟨q,rfl,k1,k2,k3,k4,k5,k6,k7⟩;simp only at k2 k3 k4 k5 k6 k7;have yl:Y.length=w.length+1:=k3.len.trans hl;have y1:=k2.b1 w.length (by omega);have y2:=k2.b2 w.length (by omega) r hr;have y3:=k2.b3 w.length (by omega) r hr c hc;have y3':=y3;unfold sg at y3';simp only [M7.l0]
  by_cases hq:q≤(sq g r c).length
  ·have y4:=k2.b4 w.length (by omega) r hr c hc q hq;have y4':=y4;unfold sg at y4';have e1:IntKind.wrap .i64 ((q:Int)+1)=((q+1:Nat):Int):=by rw [wr (by omega) (by omega)];omega
   rw [if_pos (by show (q:Int)<_;rw [s3'];omega),if_pos (by show (w.length:Int)<_;omega),if_pos (by show (r:Int)<_;rw [y1];omega),if_pos (by show (c:Int)<_;rw [y2];omega),if_pos (by omega),if_pos (by show (q:Int)<_;rw [y3'];omega),if_pos (by omega)];simp only [e1];rw [shr1 y4' i];have hseq:RC Y g w r c q i w.length↔SeqS (NS X) (wf w) ((sq g r c).take q) i w.length:=by
    rw [← k3.nm];refine RC_seq hq hi fun m' em k g1 g2=>?_
    rw [k3.nm]
    by_cases ek:k=w.length
    ·subst ek;exact k4 m' (by omega)
    ·rw [k3.bs r c m' i k (fun x=>ek x.1)];exact hpast k g1 (by omega) m' (by omega)
   by_cases hb:bit (rd (sg Y w.length r c) (q:Int)) i=true
   ·have hb':=hb;unfold sg at hb';rw [if_pos hb',if_neg (by decide)];refine .inr ⟨(Y,b,((q+1:Nat):Int)),⟨q+1,rfl,by omega,k2,k3,fun m hm=>?_,fun m hm=>k5 m (by omega),k6,k7⟩,by simp;omega,rfl⟩
    by_cases em:m=q
    ·subst em;exact ⟨fun _=>hsnd m hq ((k5 m (Nat.le_refl _)).1 hb),fun _=>hb⟩
    ·exact k4 m (by omega)
   ·have hb':=hb;unfold sg at hb';rw [if_neg hb',if_pos rfl];obtain ⟨b2,er,hb2⟩:=reaches_spec K hK g xs w Y hx k2 yl r c q i hr hc hq hi;erw [er,Option.bind_some];have hi64:i<64:=by omega
    cases b2 with
    | true =>
     rw [if_pos rfl];have hS:=hseq.1 (hb2.1 rfl);have hBS:=setB_BS k2 (j:=w.length) (m:=q) (i:=i) (by omega) hr hc hq hi64;refine .inr ⟨(setB Y w.length r c q (ior .u64 (rd (sg Y w.length r c) (q:Int)) (ishl .u64 1 (i:Int))),true,((q+1:Nat):Int)),⟨q+1,rfl,by omega,setB_shp k2 (by omega) hr hc (or_ok y4 hi64),⟨(setB_len ..).trans k3.len,(setB_NS ..).trans k3.nm,fun r' c' m' i' k hh=>?_⟩,fun m hm=>?_,fun m hm=>?_,fun e=>(by cases e),fun hf=>?_⟩,by simp;omega,rfl⟩
     ·rw [hBS,k3.bs r' c' m' i' k hh];exact ⟨fun x=>x.elim id fun y=>(hh ⟨y.1,y.2.2.2.2,y.2.1,y.2.2.1⟩).elim,.inl⟩
     ·rw [hBS]
      by_cases em:m=q
      ·subst em;exact ⟨fun _=>hS,fun _=>.inr ⟨rfl,rfl,rfl,rfl,rfl⟩⟩
      ·rw [k4 m (by omega)];exact ⟨fun x=>x.elim id fun y=>(em y.2.2.2.1).elim,.inl⟩
     ·rw [hBS,k5 m (by omega)];exact ⟨fun x=>x.elim id fun y=>(by have:=y.2.2.2.1;omega),.inl⟩
     ·exact (hb ((k5 q (Nat.le_refl _)).2 ((hf q hq).2 hS))).elim
    | false =>
     rw [if_neg (by decide)];have hS:¬ SeqS (NS X) (wf w) ((sq g r c).take q) i w.length:=fun hs=>by cases hb2.2 (hseq.2 hs)
     refine .inr ⟨(Y,b,((q+1:Nat):Int)),⟨q+1,rfl,by omega,k2,k3,fun m hm=>?_,fun m hm=>k5 m (by omega),k6,k7⟩,by simp;omega,rfl⟩
     by_cases em:m=q
     ·subst em;exact ⟨fun hh=>(hb hh).elim,fun hh=>(hS hh).elim⟩
     ·exact k4 m (by omega)
  ·rw [if_neg (by show ¬ (q:Int)<_;rw [s3'];omega)];refine .inl ⟨_,rfl,k2,k3,fun r' c' hq' m hm=>?_,k6,fun hf=>k7 (hf r c ⟨rfl,rfl⟩)⟩;obtain ⟨rfl,rfl⟩:=hq';exact k4 m (by omega)
theorem pass_l1 (K:Nat)(hK:200000≤K)(g:Grammar)(xs w:List Int)(X:List L1)(hx:CX g xs w)(hl:X.length=w.length+1)(r i:Nat)(neg:Bool)(hr:r<g.Rules.length)(hi:i≤w.length)(Q0:Nat→Nat→Prop)(hQ0:∀ c,¬ Q0 r c)
  (hpast:∀ c,c<nc g r→(rd (rd g.Rules (r:Int)).Conj (c:Int)).Neg=neg→∀ k,i≤k→k<w.length→Full g X (NS X) w i k r c) (hsnd:∀ c,c<nc g r→(rd (rd g.Rules (r:Int)).Conj (c:Int)).Neg=neg→Snd g X (NS X) w i w.length r c)
  (e:V0) (he:e.g=g) (X0:List L1) (b0:Bool) (h0:Acc g w i X X0 b0 Q0) :
  ∃ X' b t,Q5.l1 K i neg e r K (⟨g,xs,w,X0⟩,b0,0)=some (⟨g,xs,w,X'⟩,b,t)∧Acc g w i X X' b fun r' c'=>Q0 r' c'∨(r'=r∧c'<nc g r∧(rd (rd g.Rules (r:Int)).Conj (c':Int)).Neg=neg):=by
 have q2:=hx.rl;have q3:=hx.cl hr;have key:=rounds (σ:=V0×Bool×Int) (ρ:=V0×Bool×Int) (L:=Q5.l1 K i neg e r)
  (fun s=>∃ (q:Nat) (Y:List L1),s.2.2=(q:Int)∧s.1=⟨g,xs,w,Y⟩∧q≤nc g r∧Acc g w i X Y s.2.1 fun r' c'=>Q0 r' c'∨(r'=r∧c'<q∧(rd (rd g.Rules (r:Int)).Conj (c':Int)).Neg=neg))
  (fun s=>nc g r-s.2.2.toNat)
  (fun ρ=>∃ Y,ρ.1=⟨g,xs,w,Y⟩∧Acc g w i X Y ρ.2.1 fun r' c'=>Q0 r' c'∨(r'=r∧c'<nc g r∧(rd (rd g.Rules (r:Int)).Conj (c':Int)).Neg=neg)) ?_ K (⟨g,xs,w,X0⟩,b0,0) ⟨0,X0,rfl,rfl,Nat.zero_le _,h0.congr fun r' c'=>⟨.inl,fun x=>x.elim id fun y=>by omega⟩⟩ (by simp;omega)
 ·obtain ⟨⟨E,b,t⟩,e1,Y,e2,hρ⟩:=key;simp only at e2;subst e2;exact ⟨Y,b,t,e1,hρ⟩
 ·rintro ⟨E,b,t⟩ mm ⟨q,Y,rfl,e2,k1,k2⟩;simp only at e2 k2;subst e2;simp only [Q5.l1];rw [he]
  by_cases hq:q<nc g r
  ·have e1:IntKind.wrap .i64 ((q:Int)+1)=((q+1:Nat):Int):=by rw [wr (by omega) (by omega)];omega
   rw [if_pos (by show (q:Int)<((nc g r:Nat):Int);omega),if_pos (by show (r:Int)<(g.Rules.length:Int);omega),if_pos (by omega),if_pos (by show (q:Int)<((nc g r:Nat):Int);omega)];simp only [e1]
   by_cases hn:(rd (rd g.Rules (r:Int)).Conj (q:Int)).Neg=neg
   ·rw [if_pos hn];have hno:¬ (Q0 r q∨(r=r∧q<q∧(rd (rd g.Rules (r:Int)).Conj (q:Int)).Neg=neg)):=fun x=>x.elim (hQ0 q) fun y=>by omega
    have hbs:∀ m k,(BS Y r q m i k↔BS X r q m i k):=fun m k=>k2.fr.bs r q m i k fun x=>hno x.2.2
    obtain ⟨b2,Z,ec,hc2⟩:=conj_spec K hK g xs w Y hx k2.shp (k2.fr.len.trans hl) r q i hr hq hi (fun k g1 g2 m hm=>by rw [hbs,k2.fr.nm];exact hpast q hq hn k g1 g2 m hm) (fun m hm hh=>by rw [k2.fr.nm];exact hsnd q hq hn m hm ((hbs m w.length).1 hh));rw [ec,Option.bind_some];have ha:=Acc.step k2 hc2 hno;have ha':Acc g w i X Z (b || b2) fun r' c'=>Q0 r' c'∨(r'=r∧c'<q+1∧(rd (rd g.Rules (r:Int)).Conj (c':Int)).Neg=neg):=ha.congr fun r' c'=>by
     constructor
     ·rintro ((x|⟨x1,x2,x3⟩)|⟨x1,x2⟩)
      ·exact .inl x
      ·exact .inr ⟨x1,by omega,x3⟩
      ·exact .inr ⟨x1,by omega,by rw [x2];exact hn⟩
     ·rintro (x|⟨x1,x2,x3⟩)
      ·exact .inl (.inl x)
      ·by_cases ec':c'=q
       ·exact .inr ⟨x1,ec'⟩
       ·exact .inl (.inr ⟨x1,by omega,x3⟩)
    cases b2 with
    | true =>
     rw [if_pos rfl];exact .inr ⟨(⟨g,xs,w,Z⟩,true,((q+1:Nat):Int)),⟨q+1,Z,rfl,rfl,hq,by simpa using ha'⟩,by simp;omega,rfl⟩
    | false =>
     rw [if_neg (by simp)];exact .inr ⟨(⟨g,xs,w,Z⟩,b,((q+1:Nat):Int)),⟨q+1,Z,rfl,rfl,hq,by simpa using ha'⟩,by simp;omega,rfl⟩
   ·rw [if_neg hn];exact .inr ⟨(⟨g,xs,w,Y⟩,b,((q+1:Nat):Int)),⟨q+1,Y,rfl,rfl,hq,k2.congr fun r' c'=>⟨fun x=>x.imp id fun y=>⟨y.1,by omega,y.2.2⟩,fun x=>x.imp id fun y=>⟨y.1,by
     by_cases ec:c'=q
     ·rw [ec] at y;exact (hn y.2.2).elim
     ·omega,y.2.2⟩⟩⟩,by simp;omega,rfl⟩
  ·rw [if_neg (by show ¬ (q:Int)<((nc g r:Nat):Int);omega)];have:q=nc g r:=by omega
   subst this;exact .inl ⟨_,rfl,Y,rfl,k2⟩
def InL (g:Grammar)(xs:List Int)(t:Int)(neg:Bool)(r c:Nat):Prop:=r<g.Rules.length∧c<nc g r∧rd xs (rd g.Rules (r:Int)).Head=t∧(rd (rd g.Rules (r:Int)).Conj (c:Int)).Neg=neg
theorem pass_spec (K:Nat)(hK:200000≤K)(g:Grammar)(xs w:List Int)(X:List L1)(hx:CX g xs w)(h:Shp g X)(hl:X.length=w.length+1)(t:Int)(i:Nat)(neg:Bool)(hi:i≤w.length)
  (hpast:∀ r c,InL g xs t neg r c→∀ k,i≤k→k<w.length→Full g X (NS X) w i k r c) (hsnd:∀ r c,InL g xs t neg r c→Snd g X (NS X) w i w.length r c) :
  ∃ b X',Q5 K ⟨g,xs,w,X⟩ t i neg=some (b,⟨g,xs,w,X'⟩)∧Acc g w i X X' b (InL g xs t neg):=by
 have q2:=hx.rl;have key:=rounds (σ:=V0×Bool×Int) (ρ:=V0×Bool×Int) (L:=Q5.l0 K ⟨g,xs,w,X⟩ t i neg)
  (fun s=>∃ (q:Nat) (Y:List L1),s.2.2=(q:Int)∧s.1=⟨g,xs,w,Y⟩∧q≤g.Rules.length∧Acc g w i X Y s.2.1 fun r' c'=>r'<q∧InL g xs t neg r' c')
  (fun s=>g.Rules.length-s.2.2.toNat)
  (fun ρ=>∃ Y,ρ.1=⟨g,xs,w,Y⟩∧Acc g w i X Y ρ.2.1 (InL g xs t neg)) ?_ K (⟨g,xs,w,X⟩,false,0) ⟨0,X,rfl,rfl,Nat.zero_le _,(Acc.refl h).congr fun r' c'=>⟨fun x=>x.elim,fun x=>by omega⟩⟩ (by simp;omega)
 ·obtain ⟨⟨E,b,u⟩,e1,Y,e2,hρ⟩:=key;simp only at e2;subst e2;unfold Q5;rw [e1];exact ⟨b,Y,rfl,hρ⟩
 ·rintro ⟨E,b,u⟩ mm ⟨q,Y,rfl,e2,k1,k2⟩;simp only at e2 k2;subst e2;simp only [Q5.l0]
  by_cases hq:q<g.Rules.length
  ·have e1:IntKind.wrap .i64 ((q:Int)+1)=((q+1:Nat):Int):=by rw [wr (by omega) (by omega)];omega
   have hh:=hx.hd hq;have hxl:=hx.xl;rw [if_pos (by show (q:Int)<(g.Rules.length:Int);omega),if_pos (by omega),if_pos (by show (q:Int)<(g.Rules.length:Int);omega),if_pos hh.1,if_pos (by show _<(xs.length:Int);rw [hxl];exact hh.2)];simp only [e1]
   by_cases ht:rd xs (rd g.Rules (q:Int)).Head=t
   ·rw [if_neg (fun x=>x ht)];obtain ⟨Z,b2,u2,ep,hp⟩:=pass_l1 K hK g xs w X hx hl q i neg hq hi (fun r' c'=>r'<q∧InL g xs t neg r' c') (fun c x=>by omega) (fun c hc hn=>hpast q c ⟨hq,hc,ht,hn⟩) (fun c hc hn=>hsnd q c ⟨hq,hc,ht,hn⟩) ⟨g,xs,w,Y⟩ rfl Y b k2;rw [ep,Option.bind_some];refine .inr ⟨(⟨g,xs,w,Z⟩,b2,((q+1:Nat):Int)),⟨q+1,Z,rfl,rfl,hq,hp.congr fun r' c'=>?_⟩,by simp;omega,rfl⟩;constructor
    ·rintro (x|⟨x1,x2,x3⟩)
     ·exact ⟨by omega,x.2⟩
     ·subst x1;exact ⟨by omega,hq,x2,ht,x3⟩
    ·rintro ⟨x1,x2⟩
     by_cases er:r'=q
     ·subst er;exact .inr ⟨rfl,x2.2.1,x2.2.2.2⟩
     ·exact .inl ⟨by omega,x2⟩
   ·rw [if_pos ht];refine .inr ⟨(⟨g,xs,w,Y⟩,b,((q+1:Nat):Int)),⟨q+1,Y,rfl,rfl,hq,k2.congr fun r' c'=>?_⟩,by simp;omega,rfl⟩;constructor
    ·rintro ⟨x1,x2⟩;exact ⟨by omega,x2⟩
    ·rintro ⟨x1,x2⟩;refine ⟨?_,x2⟩
     by_cases er:r'=q
     ·subst er;exact (ht x2.2.2.1).elim
     ·omega
  ·rw [if_neg (by show ¬ (q:Int)<(g.Rules.length:Int);omega)];exact .inl ⟨_,rfl,Y,rfl,k2.congr fun r' c'=>⟨fun x=>x.2,fun x=>⟨by have:=x.1;omega,x⟩⟩⟩
def HB (g:Grammar)(X:List L1)(i j r:Nat):Prop:=∀ c,c<nc g r→((rd (rd g.Rules (r:Int)).Conj (c:Int)).Neg=true↔¬ BS X r c (sq g r c).length i j)
theorem holds_spec (K:Nat)(hK:200000≤K)(g:Grammar)(xs w:List Int)(X:List L1)(hx:CX g xs w)(h:Shp g X)(hl:X.length=w.length+1)(r i:Nat)(hr:r<g.Rules.length)(hi:i≤w.length) :
  ∃ b,Q8 K ⟨g,xs,w,X⟩ r i=some b∧(b=true↔HB g X i w.length r):=by
 have q1:=hx.wl;have q2:=hx.rl;have q3:=hx.cl hr;have s1:=h.b1 w.length (by omega);have s2:=h.b2 w.length (by omega) r hr;unfold Q8;rw [if_pos (by omega),if_pos (by show (r:Int)<(g.Rules.length:Int);omega)];have key:=rounds (σ:=Int) (ρ:=Int ⊕ Bool) (L:=Q8.l0 K ⟨g,xs,w,X⟩ r i)
  (fun k=>∃ q:Nat,k=(q:Int)∧q≤nc g r∧∀ c,c<q→((rd (rd g.Rules (r:Int)).Conj (c:Int)).Neg=true↔¬ BS X r c (sq g r c).length i w.length)) (fun k=>nc g r-k.toNat)
  (fun ρ=>(ρ = .inr false∧¬ HB g X i w.length r)∨(∃ q,ρ = .inl q)∧HB g X i w.length r) ?_ K 0 ⟨0,rfl,Nat.zero_le _,fun c hc=>by omega⟩ (by simp;omega)
 ·obtain ⟨ρ,e1,hρ⟩:=key;rw [e1];rcases hρ with ⟨e,hh⟩|⟨⟨q,e⟩,hh⟩
  ·subst e;exact ⟨false,rfl,⟨fun e=>(by cases e),fun e=>(hh e).elim⟩⟩
  ·subst e;exact ⟨true,rfl,⟨fun _=>hh,fun _=>rfl⟩⟩
 ·rintro k mm ⟨q,rfl,k1,k2⟩;simp only [Q8.l0]
  by_cases hq:q<nc g r
  ·have s3:=h.b3 w.length (by omega) r hr q hq;have s4:=h.b4 w.length (by omega) r hr q hq (sq g r q).length (Nat.le_refl _);have q4:=hx.ql hr hq;unfold sg at s3 s4;have e0:IntKind.wrap .i64 (((rd (rd (rd X (w.length:Int)).begun (r:Int)) (q:Int)).length:Int)-1)=((sq g r q).length:Int):=by rw [s3,wr (by omega) (by omega)];omega
   have e1:IntKind.wrap .i64 ((q:Int)+1)=((q+1:Nat):Int):=by rw [wr (by omega) (by omega)];omega
   rw [if_pos (by show (q:Int)<((nc g r:Nat):Int);omega),if_pos (by omega),if_pos (by show (w.length:Int)<(X.length:Int);omega),if_pos (by show (r:Int)<_;rw [s1];omega),if_pos (by show (q:Int)<_;rw [s2];omega)];simp only [e0,e1];rw [if_pos (by omega),if_pos (by rw [s3];omega),if_pos (by omega),shr1 s4 i];have ed:decide ((if bit (rd (rd (rd (rd X (w.length:Int)).begun (r:Int)) (q:Int)) ((sq g r q).length:Int)) i=true then (1:Int) else 0)=1)=bit (rd (rd (rd (rd X (w.length:Int)).begun (r:Int)) (q:Int)) ((sq g r q).length:Int)) i:=by
    cases bit (rd (rd (rd (rd X (w.length:Int)).begun (r:Int)) (q:Int)) ((sq g r q).length:Int)) i <;> simp
   rw [ed];have hbs:BS X r q (sq g r q).length i w.length↔bit (rd (rd (rd (rd X (w.length:Int)).begun (r:Int)) (q:Int)) ((sq g r q).length:Int)) i=true:=Iff.rfl
   by_cases he:bit (rd (rd (rd (rd X (w.length:Int)).begun (r:Int)) (q:Int)) ((sq g r q).length:Int)) i=(rd (rd g.Rules (r:Int)).Conj (q:Int)).Neg
   ·rw [if_pos he];refine .inl ⟨_,rfl,.inl ⟨rfl,fun hh=>?_⟩⟩;have:=hh q hq;rw [hbs,he] at this;cases hn:(rd (rd g.Rules (r:Int)).Conj (q:Int)).Neg <;> rw [hn] at this <;> simp at this
   ·rw [if_neg he];refine .inr ⟨((q+1:Nat):Int),⟨q+1,rfl,hq,fun c hc=>?_⟩,by omega,rfl⟩
    by_cases ec:c=q
    ·subst ec;rw [hbs];cases hn:(rd (rd g.Rules (r:Int)).Conj (c:Int)).Neg <;> rw [hn] at he <;> simp at he ⊢ <;> exact he
    ·exact k2 c (by omega)
  ·rw [if_neg (by show ¬ (q:Int)<((nc g r:Nat):Int);omega)];have:q=nc g r:=by omega
   subst this;exact .inl ⟨_,rfl,.inr ⟨⟨_,rfl⟩,k2⟩⟩
def HA (g:Grammar)(xs:List Int)(X:List L1)(t:Int)(i j q:Nat)(x:Int):Prop:=∃ r,r<q∧(rd g.Rules (r:Int)).Head=x∧rd xs x=t∧HB g X i j r
theorem BS_sg {X Y:List L1}(h:∀ k r c,sg Y k r c=sg X k r c)(r c m i k:Nat):BS Y r c m i k↔BS X r c m i k:=by unfold BS;rw [h]
theorem HB_sg {g:Grammar}{X Y:List L1}(h:∀ k r c,sg Y k r c=sg X k r c)(i j r:Nat):HB g Y i j r↔HB g X i j r:=by
 unfold HB;exact ⟨fun hh c hc=>by rw [← BS_sg h];exact hh c hc,fun hh c hc=>by rw [BS_sg h];exact hh c hc⟩
structure Hd (g:Grammar)(xs:List Int)(X X':List L1)(b:Bool)(t:Int)(i j q:Nat):Prop where
 shp:Shp g X'
 len:X'.length=X.length
 sgs:∀ k r c,sg X' k r c=sg X k r c
 ns:∀ y i' k:Nat,NS X' (y:Int) i' k↔NS X (y:Int) i' k∨(k=j∧i'=i∧HA g xs X t i j q (y:Int))
 same:b=false→X'=X
 still:(∀ y:Nat,HA g xs X t i j q (y:Int)→NS X (y:Int) i j)→b=false
theorem heads_spec (K:Nat)(hK:200000≤K)(g:Grammar)(xs w:List Int)(X:List L1)(hx:CX g xs w)(h:Shp g X)(hl:X.length=w.length+1)(t:Int)(i:Nat)(hi:i≤w.length) :
  ∃ b X',m7 K ⟨g,xs,w,X⟩ t i=some (b,⟨g,xs,w,X'⟩)∧Hd g xs X X' b t i w.length g.Rules.length:=by
 have q1:=hx.wl;have q2:=hx.rl;unfold m7;rw [if_pos (by show (w.length:Int)<(X.length:Int);omega)];have key:=rounds (σ:=List L1×Bool×Int) (ρ:=List L1×Bool×Int) (L:=m7.l0 K ⟨g,xs,w,X⟩ t i)
  (fun s=>∃ q:Nat,s.2.2=(q:Int)∧q≤g.Rules.length∧Hd g xs X s.1 s.2.1 t i w.length q)
  (fun s=>g.Rules.length-s.2.2.toNat)
  (fun ρ=>Hd g xs X ρ.1 ρ.2.1 t i w.length g.Rules.length) ?_ K (X,false,0) ⟨0,rfl,Nat.zero_le _,h,rfl,fun _ _ _=>rfl,fun y i' k=>⟨.inl,fun x=>x.elim id fun ⟨_,_,r,hr,_⟩=>by omega⟩,fun _=>rfl,fun _=>rfl⟩ (by simp;omega)
 ·obtain ⟨⟨Y,b,u⟩,e1,hρ⟩:=key;rw [e1];exact ⟨b,Y,rfl,hρ⟩
 ·rintro ⟨Y,b,u⟩ mm ⟨q,rfl,k1,k2⟩;simp only at k2;simp only [m7.l0]
  by_cases hq:q<g.Rules.length
  ·have e1:IntKind.wrap .i64 ((q:Int)+1)=((q+1:Nat):Int):=by rw [wr (by omega) (by omega)];omega
   have hh:=hx.hd hq;have hxl:=hx.xl;have yl:Y.length=w.length+1:=k2.len.trans hl;obtain ⟨hd,ehd⟩:∃ hd:Nat,(rd g.Rules (q:Int)).Head=(hd:Int):=⟨(rd g.Rules (q:Int)).Head.toNat,by omega⟩
   have hdl:hd<g.Names.length:=by omega
   have n1:=k2.shp.n1 w.length (by omega);have n2:=k2.shp.n2 w.length (by omega) hd hdl;have more:∀ y:Int,HA g xs X t i w.length (q+1) y↔HA g xs X t i w.length q y∨((hd:Int)=y∧rd xs y=t∧HB g X i w.length q):=fun y=>by
    constructor
    ·rintro ⟨r,h1,h2,h3,h4⟩
     by_cases er:r=q
     ·subst er;exact .inr ⟨ehd.symm.trans h2,h3,h4⟩
     ·exact .inl ⟨r,by omega,h2,h3,h4⟩
    ·rintro (⟨r,h1,h2,h3,h4⟩|⟨h2,h3,h4⟩)
     ·exact ⟨r,by omega,h2,h3,h4⟩
     ·exact ⟨q,by omega,ehd.trans h2,h3,h4⟩
   have skip:(∀ y:Nat,(hd:Int)=(y:Int)→rd xs (y:Int)=t→HB g X i w.length q→NS Y (y:Int) i w.length)→Hd g xs X Y b t i w.length (q+1):=fun hs=>⟨k2.shp,k2.len,k2.sgs,fun y i' k=>by
    rw [k2.ns,more];constructor
    ·rintro (x|⟨x1,x2,x3⟩)
     ·exact .inl x
     ·exact .inr ⟨x1,x2,.inl x3⟩
    ·rintro (x|⟨x1,x2,x3|⟨x3,x4,x5⟩⟩)
     ·exact .inl x
     ·exact .inr ⟨x1,x2,x3⟩
     ·subst x1 x2;exact (k2.ns _ _ _).1 (hs y x3 x4 x5),k2.same,fun hf=>k2.still fun y hy=>hf y ((more _).2 (.inl hy))⟩
   rw [if_pos (by show (q:Int)<(g.Rules.length:Int);omega),if_pos (by omega),if_pos hh.1,if_pos (by show _<(xs.length:Int);rw [hxl];exact hh.2)];simp only [e1,ehd]
   by_cases ht:rd xs (hd:Int)=t
   ·rw [if_pos ht,if_pos (by show (w.length:Int)<(Y.length:Int);omega),if_pos (by rw [n1];omega),if_pos (by omega),shr1 n2 i]
    by_cases hb:bit (rd (rd Y (w.length:Int)).names (hd:Int)) i=true
    ·rw [if_pos hb,if_neg (by decide)];exact .inr ⟨(Y,b,((q+1:Nat):Int)),⟨q+1,rfl,hq,skip fun y ey _ _=>by rw [← ey];exact hb⟩,by simp;omega,rfl⟩
    ·rw [if_neg hb,if_pos rfl];obtain ⟨b2,er,hb2⟩:=holds_spec K hK g xs w Y hx k2.shp yl q i hq hi;rw [HB_sg k2.sgs] at hb2;erw [er,Option.bind_some]
     cases b2 with
     | true =>
      rw [if_pos rfl];have hHB:=hb2.1 rfl;have hN:=fun y i' k=>setN_NS k2.shp (j:=w.length) (x:=hd) (i:=i) (by omega) hdl (by omega) y i' k
      refine .inr ⟨(setN Y w.length hd (ior .u64 (rd (rd Y (w.length:Int)).names (hd:Int)) (ishl .u64 1 (i:Int))),true,((q+1:Nat):Int)),⟨q+1,rfl,hq,setN_shp k2.shp (by omega) (or_ok n2 (by omega)),(setN_len ..).trans k2.len,fun k r c=>(setN_sg ..).trans (k2.sgs k r c),fun y i' k=>?_,fun e=>(by cases e),fun hf=>?_⟩,by simp;omega,rfl⟩
      ·rw [hN,k2.ns,more];constructor
       ·rintro ((x|⟨x1,x2,x3⟩)|⟨x1,x2,x3⟩)
        ·exact .inl x
        ·exact .inr ⟨x1,x2,.inl x3⟩
        ·exact .inr ⟨x1,x3,.inr ⟨by rw [x2],by rw [x2];exact ht,hHB⟩⟩
       ·rintro (x|⟨x1,x2,x3|⟨x3,x4,x5⟩⟩)
        ·exact .inl (.inl x)
        ·exact .inl (.inr ⟨x1,x2,x3⟩)
        ·exact .inr ⟨x1,by omega,x2⟩
      ·have:=hf hd ((more _).2 (.inr ⟨rfl,ht,hHB⟩));exact (hb ((k2.ns hd i w.length).2 (.inl this))).elim
     | false =>
      rw [if_neg (by decide)];exact .inr ⟨(Y,b,((q+1:Nat):Int)),⟨q+1,rfl,hq,skip fun y _ _ hh=>by cases hb2.2 hh⟩,by simp;omega,rfl⟩
   ·rw [if_neg ht];exact .inr ⟨(Y,b,((q+1:Nat):Int)),⟨q+1,rfl,hq,skip fun y ey et _=>by rw [← ey] at et;exact (ht et).elim⟩,by simp;omega,rfl⟩
  ·rw [if_neg (by show ¬ (q:Int)<(g.Rules.length:Int);omega)];have:q=g.Rules.length:=by omega
   subst this;exact .inl ⟨_,rfl,k2⟩
theorem countP_ltC {T:Type}{p q:T→Bool}{x:T}:∀ {l:List T},x ∈ l→(∀ z ∈ l,p z=true→q z=true)→q x=true→p x=false→l.countP p<l.countP q
 | [],h,_,_,_=>by cases h
 | y::l,h,hi,hq,hp=>by
  have hle:l.countP p≤l.countP q:=List.countP_mono_left fun z hz=>hi z (List.mem_cons_of_mem _ hz)
  rw [List.countP_cons,List.countP_cons]
  by_cases e:x=y
  ·subst e;rw [hq,hp];simp;omega
  ·have hm:x ∈ l:=by cases h with|head=>exact (e rfl).elim|tail _ h=>exact h
   have:=countP_ltC hm (fun z hz=>hi z (List.mem_cons_of_mem _ hz)) hq hp;have hy:=hi y (List.mem_cons_self ..)
   cases hpy:p y with
   | true=>rw [hy hpy];simp;omega
   | false=>cases q y <;> simp <;> omega
structure Sp0 (g:Grammar)(xs w:List Int)(X0:List L1)(i:Nat)(t:Int)(X:List L1):Prop where
 shp:Shp g X
 len:X.length=w.length+1
 env:∀ x a b,¬ (a=i∧b=w.length)→(NS X x a b↔NS X0 x a b)
 oth:∀ r c m i' k,¬ (k=w.length∧i'=i)→(BS X r c m i' k↔BS X0 r c m i' k)
 ri:RI g.Names.length g.Rules (rd xs) (HS (NS X0) (wf w) i w.length) t fun x=>NS X x i w.length
 lo:∀ r c,r<g.Rules.length→c<nc g r→rd xs (rd g.Rules (r:Int)).Head<t→Full g X (NS X) w i w.length r c
 hi:∀ r c,r<g.Rules.length→c<nc g r→t<rd xs (rd g.Rules (r:Int)).Head→∀ m,¬ BS X r c m i w.length
theorem Sp0.self {g:Grammar}{xs w:List Int}{X0 X:List L1}{i:Nat}{t:Int}(h:Sp0 g xs w X0 i t X):upd (NS X0) i w.length (fun x=>NS X x i w.length)=NS X:=by
 funext x a b
 unfold upd
 split
 ·rename_i e;rw [e.1,e.2]
 ·rename_i e;exact propext (h.env x a b e).symm
theorem full_keep {g:Grammar}{xs w:List Int}(hx:CX g xs w){X Y:List L1}{i r c:Nat}(hr:r<g.Rules.length)(hc:c<nc g r)(hb:∀ m,BS Y r c m i w.length↔BS X r c m i w.length)
  (hn:∀ y:Int,0≤y→y<g.Names.length→rd xs y+(if (rd (rd g.Rules (r:Int)).Conj (c:Int)).Neg=true then 1 else 0)≤rd xs (rd g.Rules (r:Int)).Head→∀ a b,i≤a→a≤b→b≤w.length→(NS Y y a b↔NS X y a b)) (h:Full g X (NS X) w i w.length r c):Full g Y (NS Y) w i w.length r c:=fun m hm=>by
 rw [hb,h m hm];refine (SeqS_env fun s hs h0 a b h1 h2 h3=>?_).symm;have:=(hx.lv _ (rd_mem' hr)).2 _ (rd_mem' hc) s (List.mem_of_mem_take hs) h0;exact hn s.Name h0 this.1 this.2 a b h1 h2 h3
theorem snd_keep {g:Grammar}{w:List Int}{X Y:List L1}{i r c:Nat}(hb:∀ m,BS Y r c m i w.length↔BS X r c m i w.length)(hn:∀ y:Int,0≤y→∀ a b,NS X y a b→NS Y y a b)(h:Snd g X (NS X) w i w.length r c):Snd g Y (NS Y) w i w.length r c:=fun m hm hh =>
 SeqS_mono (fun s _ h0 a b _ _ _=>hn s.Name h0 a b) (h m hm ((hb m).1 hh))
theorem Sp0.past {g:Grammar}{xs w:List Int}{X0 X:List L1}{i:Nat}{t:Int}(h:Sp0 g xs w X0 i t X)(hp:∀ r c,r<g.Rules.length→c<nc g r→∀ k,i≤k→k<w.length→Full g X0 (NS X0) w i k r c){r c:Nat}(hr:r<g.Rules.length)(hc:c<nc g r)(k:Nat)(h1:i≤k)(h2:k<w.length):Full g X (NS X) w i k r c:=fun m hm=>by
 rw [h.oth r c m i k (fun x=>by omega),hp r c hr hc k h1 h2 m hm];exact (SeqS_env fun s _ _ a b g1 g2 g3=>h.env s.Name a b (fun x=>by omega)).symm
theorem Sp0.pass {g:Grammar}{xs w:List Int}{X0 X X1:List L1}{i:Nat}{t:Int}{b neg:Bool}(hx:CX g xs w)(h:Sp0 g xs w X0 i t X)(ha:Acc g w i X X1 b (InL g xs t neg)):Sp0 g xs w X0 i t X1:=by
 have e:=ha.fr.nm;have hbs:∀ (r c:Nat),rd xs (rd g.Rules (r:Int)).Head≠t→∀ m,BS X1 r c m i w.length↔BS X r c m i w.length:=fun r c hne m=>ha.fr.bs r c m i w.length fun x=>hne x.2.2.2.2.1
 refine ⟨ha.shp,ha.fr.len.trans h.len,fun x a b hh=>by rw [e];exact h.env x a b hh,fun r c m i' k hh=>by rw [ha.fr.bs r c m i' k (fun x=>hh ⟨x.1,x.2.1⟩)];exact h.oth r c m i' k hh,by rw [e];exact h.ri,fun r c hr hc hlt m hm=>?_,fun r c hr hc hlt m hh=>?_⟩
 ·rw [hbs r c (by omega),e];exact h.lo r c hr hc hlt m hm
 ·exact h.hi r c hr hc hlt m ((hbs r c (by omega) m).1 hh)
theorem HB_rule {g:Grammar}{xs w:List Int}{X0 X:List L1}{i:Nat}{t:Int}(h:Sp0 g xs w X0 i t X){r:Nat}(hr:r<g.Rules.length)(hf:∀ c,c<nc g r→Full g X (NS X) w i w.length r c):HB g X i w.length r↔HS (NS X0) (wf w) i w.length (fun x=>NS X x i w.length) (rd g.Rules (r:Int)):=by
 unfold HS;rw [h.self];unfold HB RuleS;have key:∀ c,c<nc g r→(BS X r c (sq g r c).length i w.length↔SeqS (NS X) (wf w) (sq g r c) i w.length):=fun c hc=>by
  have:=hf c hc (sq g r c).length (Nat.le_refl _)
  rwa [List.take_length] at this
 constructor
 ·intro hh c hc;obtain ⟨q,hq,rfl⟩:=mem_rd hc;rw [hh q hq,key q hq]
 ·intro hh c hc;rw [hh _ (rd_mem' hc),key c hc]
theorem turn_l2 (K:Nat)(hK:200000≤K)(g:Grammar)(xs w:List Int)(X0:List L1)(hx:CX g xs w)(i:Nat)(hi:i≤w.length)(t:Nat)(X:List L1)(h:Sp0 g xs w X0 i t X)
  (hp:∀ r c,r<g.Rules.length→c<nc g r→∀ k,i≤k→k<w.length→Full g X0 (NS X0) w i k r c)
  (hng:∀ r c,InL g xs t true r c→Full g X (NS X) w i w.length r c) (hps:∀ r c,InL g xs t false r c→Snd g X (NS X) w i w.length r c) :
  ∃ X' b,f4.l2 K i t K (⟨g,xs,w,X⟩,true)=some (⟨g,xs,w,X'⟩,b)∧Sp0 g xs w X0 i t X'∧(∀ r c,r<g.Rules.length→c<nc g r→rd xs (rd g.Rules (r:Int)).Head=t→Full g X' (NS X') w i w.length r c)∧(∀ r ∈ g.Rules,rd xs r.Head=t→HS (NS X0) (wf w) i w.length (fun x=>NS X' x i w.length) r→NS X' r.Head i w.length):=by
 classical
 let C:List L1→Prop:=fun Y=>∀ r c,InL g xs t false r c→Full g Y (NS Y) w i w.length r c
 let cnt:List L1→Nat:=fun Y=>(List.range g.Names.length).countP fun y=>decide (¬ NS Y ((y:Nat):Int) i w.length)
 have hcle:∀ Y,cnt Y≤64:=fun Y=>Nat.le_trans (List.countP_le_length) (by simp;exact hx.nl)
 have key:=rounds (σ:=V0×Bool) (ρ:=V0×Bool) (L:=f4.l2 K i t)
  (fun s=>∃ Y,s.1=⟨g,xs,w,Y⟩∧Sp0 g xs w X0 i t Y∧(∀ r c,InL g xs t true r c→Full g Y (NS Y) w i w.length r c)∧(∀ r c,InL g xs t false r c→Snd g Y (NS Y) w i w.length r c) ∧
   (s.2=false→C Y∧∀ r ∈ g.Rules,rd xs r.Head=t→HS (NS X0) (wf w) i w.length (fun x=>NS Y x i w.length) r→NS Y r.Head i w.length))
  (fun s=>2*(2*cnt s.1.sets+if C s.1.sets then 0 else 1)+if s.2=true then 1 else 0)
  (fun ρ=>∃ Y,ρ.1=⟨g,xs,w,Y⟩∧Sp0 g xs w X0 i t Y∧(∀ r c,r<g.Rules.length→c<nc g r→rd xs (rd g.Rules (r:Int)).Head=t→Full g Y (NS Y) w i w.length r c)∧(∀ r ∈ g.Rules,rd xs r.Head=t→HS (NS X0) (wf w) i w.length (fun x=>NS Y x i w.length) r→NS Y r.Head i w.length)) ?_ K (⟨g,xs,w,X⟩,true) ⟨X,rfl,h,hng,hps,fun e=>by cases e⟩ (by have:=hcle X;simp only;split <;> split <;> omega)
 ·obtain ⟨⟨E,b⟩,e1,Y,e2,h1,h2,h3⟩:=key;simp only at e2;subst e2;exact ⟨Y,b,e1,h1,h2,h3⟩
 ·rintro ⟨E,more⟩ mm ⟨Y,e2,k1,k2,k3,k4⟩;simp only at e2 k4;subst e2;simp only [f4.l2]
  cases more with
  | false =>
   rw [if_neg (by decide)];obtain ⟨c1,c2⟩:=k4 rfl;refine .inl ⟨_,rfl,Y,rfl,k1,fun r c hr hc ht=>?_,c2⟩
   cases hn:(rd (rd g.Rules (r:Int)).Conj (c:Int)).Neg with
   | true=>exact k2 r c ⟨hr,hc,ht,hn⟩
   | false=>exact c1 r c ⟨hr,hc,ht,hn⟩
  | true =>
   rw [if_pos rfl];obtain ⟨b1,Y1,ep,ha⟩:=pass_spec K hK g xs w Y hx k1.shp k1.len t i false hi (fun r c hq k g1 g2=>k1.past hp hq.1 hq.2.1 k g1 g2) k3;have s1:=k1.pass hx ha;rw [ep,Option.bind_some];obtain ⟨b2,Y2,eh,hh⟩:=heads_spec K hK g xs w Y1 hx s1.shp s1.len t i hi;erw [eh,Option.bind_some];have e1:=ha.fr.nm;have pc:C Y1:=fun r c hq m hm=>by rw [e1];exact ha.full r c hq m hm
   have ng1:∀ r c,InL g xs t true r c→Full g Y1 (NS Y1) w i w.length r c:=fun r c hq m hm=>by
    rw [ha.fr.bs r c m i w.length (fun x=>by have:=x.2.2.2.2.2;rw [hq.2.2.2] at this;cases this),e1];exact k2 r c hq m hm
   have all1:∀ r c,r<g.Rules.length→c<nc g r→rd xs (rd g.Rules (r:Int)).Head=t→Full g Y1 (NS Y1) w i w.length r c:=fun r c hr hc ht=>by
    cases hn:(rd (rd g.Rules (r:Int)).Conj (c:Int)).Neg with
    | true=>exact ng1 r c ⟨hr,hc,ht,hn⟩
    | false=>exact pc r c ⟨hr,hc,ht,hn⟩
   have hA:∀ y,HA g xs Y1 t i w.length g.Rules.length y→∃ r ∈ g.Rules,r.Head=y∧rd xs y=t∧HS (NS X0) (wf w) i w.length (fun x=>NS Y1 x i w.length) r:=fun y ⟨r,h1,h2,h3,h4⟩ =>
    ⟨rd g.Rules (r:Int),rd_mem' h1,h2,h3,(HB_rule s1 h1 fun c hc=>all1 r c h1 hc (by rw [h2];exact h3)).1 h4⟩
   have nat:∀ (x:Int),NS Y2 x=NS Y2 (x.toNat:Int)∧NS Y1 x=NS Y1 (x.toNat:Int):=fun x=>by
    by_cases h0:0≤x
    ·rw [Int.toNat_of_nonneg h0];exact ⟨rfl,rfl⟩
    ·have e0:x.toNat=0:=Int.toNat_of_nonpos (by omega);rw [e0];exact ⟨by funext a b;exact propext (NS_neg (by omega)),by funext a b;exact propext (NS_neg (by omega))⟩
   have ns2:∀ x a b,¬ (a=i∧b=w.length)→(NS Y2 x a b↔NS Y1 x a b):=fun x a b hne=>by
    rw [(nat x).1,(nat x).2,hh.ns];exact ⟨fun z=>z.elim id fun z=>(hne ⟨z.2.1,z.1⟩).elim,.inl⟩
   have ns2i:∀ y:Int,0≤y→(NS Y2 y i w.length↔NS Y1 y i w.length∨HA g xs Y1 t i w.length g.Rules.length y):=fun y h0=>by
    have:=hh.ns y.toNat i w.length;rw [Int.toNat_of_nonneg h0] at this;rw [this];exact ⟨fun z=>z.imp id fun z=>z.2.2,fun z=>z.imp id fun z=>⟨rfl,rfl,z⟩⟩
   have lowN:∀ y:Int,0≤y→rd xs y≠t→∀ a b,NS Y2 y a b↔NS Y1 y a b:=fun y h0 hne a b=>by
    by_cases hab:a=i∧b=w.length
    ·rw [hab.1,hab.2,ns2i y h0];exact ⟨fun z=>z.elim id fun ⟨_,_,_,z,_⟩=>(hne z).elim,.inl⟩
    ·exact ns2 y a b hab
   have upN:∀ y:Int,0≤y→∀ a b,NS Y1 y a b→NS Y2 y a b:=fun y h0 a b hz=>by
    by_cases hab:a=i∧b=w.length
    ·rw [hab.1,hab.2] at hz ⊢;exact (ns2i y h0).2 (.inl hz)
    ·exact (ns2 y a b hab).2 hz
   have bs2:=BS_sg hh.sgs;have s2:Sp0 g xs w X0 i t Y2:=by
    refine ⟨hh.shp,hh.len.trans s1.len,fun x a b hne=>(ns2 x a b hne).trans (s1.env x a b hne),fun r c m i' k hne=>(bs2 r c m i' k).trans (s1.oth r c m i' k hne),?_,fun r c hr hc hlt=>?_,fun r c hr hc hlt m hz=>s1.hi r c hr hc hlt m ((bs2 ..).1 hz)⟩
    ·have hri:=RI.puts (HS_lvl hx.lv (NS X0) (wf w) i w.length) s1.ri (A:=fun y=>0≤y∧HA g xs Y1 t i w.length g.Rules.length y) fun y hy=>hA y hy.2
     refine RI_on hri (fun y h0 h1=>?_) (HS_lvl hx.lv (NS X0) (wf w) i w.length);rw [ns2i y h0];exact ⟨fun z=>z.imp id fun z=>⟨h0,z⟩,fun z=>z.imp id fun z=>z.2⟩
    ·exact full_keep hx hr hc (fun m=>bs2 ..) (fun y h0 h1 hle a b _ _ _=>lowN y h0 (by split at hle <;> omega) a b) (s1.lo r c hr hc hlt)
   have ng2:∀ r c,InL g xs t true r c→Full g Y2 (NS Y2) w i w.length r c:=fun r c hq=>full_keep hx hq.1 hq.2.1 (fun m=>bs2 ..) (fun y h0 h1 hle a b _ _ _=>lowN y h0 (by rw [hq.2.2.2,hq.2.2.1] at hle;simp at hle;omega) a b) (ng1 r c hq)
   have ps2:∀ r c,InL g xs t false r c→Snd g Y2 (NS Y2) w i w.length r c:=fun r c hq=>snd_keep (fun m=>bs2 ..) (fun y h0 a b=>upN y h0 a b) fun m hm=>(pc r c hq m hm).1
   have cntle:cnt Y1=cnt Y:=by
    show (List.range g.Names.length).countP _=(List.range g.Names.length).countP _;rw [e1]
   have grew:b2=true→cnt Y2<cnt Y1:=fun hb2=>by
    have:∃ y:Nat,HA g xs Y1 t i w.length g.Rules.length (y:Int)∧¬ NS Y1 (y:Int) i w.length:=Classical.byContradiction fun hno=>by
     have:=hh.still fun y hy=>Classical.byContradiction fun hz=>hno ⟨y,hy,hz⟩
     rw [this] at hb2;cases hb2
    obtain ⟨y,hy,hz⟩:=this;obtain ⟨r,h1,h2,_,_⟩:=hy;have hyl:=hx.hd h1;refine countP_ltC (x:=y) (List.mem_range.2 (by omega)) (fun z _ hz2=>?_) ?_ ?_
    ·simp only [decide_eq_true_eq] at hz2 ⊢;exact fun hz3=>hz2 (upN z (Int.natCast_nonneg _) _ _ hz3)
    ·simpa using hz
    ·simp only [decide_eq_false_iff_not,Classical.not_not];exact (ns2i y (Int.natCast_nonneg _)).2 (.inr ⟨r,h1,h2,by assumption,by assumption⟩)
   have nogrew:b2=false→Y2=Y1:=hh.same;have closed:b2=false→∀ r ∈ g.Rules,rd xs r.Head=t→HS (NS X0) (wf w) i w.length (fun x=>NS Y2 x i w.length) r→NS Y2 r.Head i w.length:=fun hb2 r hr ht hH=>by
    have eY:=nogrew hb2;rw [eY] at hH;obtain ⟨q,hq,rfl⟩:=mem_rd hr;exact (ns2i _ (hx.hd hq).1).2 (.inr ⟨q,hq,rfl,ht,(HB_rule s1 hq fun c hc=>all1 q c hq hc ht).2 hH⟩)
   by_cases hb1:b1=true
   ·rw [if_pos hb1];refine .inr ⟨(⟨g,xs,w,Y2⟩,true),⟨Y2,rfl,s2,ng2,ps2,fun e=>by cases e⟩,?_,rfl⟩;have hC:¬ C Y:=fun hc=>by have:=ha.still hc;rw [hb1] at this;cases this
    simp only [if_neg hC]
    cases hb2:b2 with
    | true=>have:=grew hb2;split <;> omega
    | false =>
     have eY:=nogrew hb2;rw [eY,if_pos pc,cntle];omega
   ·rw [if_neg hb1];refine .inr ⟨(⟨g,xs,w,Y2⟩,b2),⟨Y2,rfl,s2,ng2,ps2,fun e=>⟨by rw [nogrew e];exact pc,closed e⟩⟩,?_,rfl⟩;have eY1:=ha.same (by simpa using hb1)
    cases hb2:b2 with
    | true =>
     have:=grew hb2;simp only [if_true]
     split <;> split <;> omega
    | false =>
     have eY:=nogrew hb2;simp only;rw [eY,eY1];simp
structure SpD (g:Grammar)(xs w:List Int)(X0:List L1)(i:Nat)(X:List L1):Prop where
 shp:Shp g X
 len:X.length=w.length+1
 env:∀ x a b,¬ (a=i∧b=w.length)→(NS X x a b↔NS X0 x a b)
 oth:∀ r c m i' k,¬ (k=w.length∧i'=i)→(BS X r c m i' k↔BS X0 r c m i' k)
 pm:PM1 g.Names.length g.Rules (rd xs) (HS (NS X0) (wf w) i w.length) fun x=>NS X x i w.length
 full:∀ r c,r<g.Rules.length→c<nc g r→Full g X (NS X) w i w.length r c
theorem turn_l1 (K:Nat)(hK:200000≤K)(g:Grammar)(xs w:List Int)(X0:List L1)(hx:CX g xs w)(i:Nat)(hi:i≤w.length)(h:Shp g X0)(hl:X0.length=w.length+1)
  (hp:∀ r c,r<g.Rules.length→c<nc g r→∀ k,i≤k→k<w.length→Full g X0 (NS X0) w i k r c) (hz:∀ r c m,¬ BS X0 r c m i w.length) (hn:∀ x:Int,¬ NS X0 x i w.length) :
  ∃ X' u,f4.l1 K ⟨g,xs,w,X0⟩ i K (⟨g,xs,w,X0⟩,0)=some (⟨g,xs,w,X'⟩,u)∧SpD g xs w X0 i X':=by
 have q1:=hx.nl;have hlv:=HS_lvl hx.lv (NS X0) (wf w) i w.length;have key:=rounds (σ:=V0×Int) (ρ:=V0×Int) (L:=f4.l1 K ⟨g,xs,w,X0⟩ i)
  (fun s=>∃ (t:Nat) (Y:List L1),s.2=(t:Int)∧s.1=⟨g,xs,w,Y⟩∧t≤g.Names.length∧Sp0 g xs w X0 i t Y∧∀ r c,r<g.Rules.length→c<nc g r→rd xs (rd g.Rules (r:Int)).Head=t→∀ m,¬ BS Y r c m i w.length)
  (fun s=>g.Names.length-s.2.toNat) (fun ρ=>∃ Y,ρ.1=⟨g,xs,w,Y⟩∧SpD g xs w X0 i Y) ?_ K (⟨g,xs,w,X0⟩,0) ⟨0,X0,rfl,rfl,Nat.zero_le _,?_,fun r c _ _ _ m=>hz r c m⟩ (by simp;omega)
 ·obtain ⟨⟨E,u⟩,e1,Y,e2,h1⟩:=key;simp only at e2;subst e2;exact ⟨Y,u,e1,h1⟩
 ·rintro ⟨E,u⟩ mm ⟨t,Y,rfl,e2,k1,k2,k3⟩;simp only at e2;subst e2;simp only [f4.l1]
  by_cases ht:t<g.Names.length
  ·have e1:IntKind.wrap .i64 ((t:Int)+1)=((t+1:Nat):Int):=by rw [wr (by omega) (by omega)];omega
   rw [if_pos (by show (t:Int)<(g.Names.length:Int);omega)];simp only [e1];obtain ⟨b1,Y1,ep,ha⟩:=pass_spec K hK g xs w Y hx k2.shp k2.len t i true hi (fun r c hq k g1 g2=>k2.past hp hq.1 hq.2.1 k g1 g2) (fun r c hq m hm hh=>(k3 r c hq.1 hq.2.1 hq.2.2.1 m hh).elim);have s1:=k2.pass hx ha;rw [ep,Option.bind_some];have e1:=ha.fr.nm;obtain ⟨Y2,b2,el,s2,f2,c2⟩:=turn_l2 K hK g xs w X0 hx i hi t Y1 s1 hp (fun r c hq m hm=>by rw [e1];exact ha.full r c hq m hm) (fun r c hq m hm hh=>by
    rw [ha.fr.bs r c m i w.length (fun x=>by have:=x.2.2.2.2.2;rw [hq.2.2.2] at this;cases this)] at hh;exact (k3 r c hq.1 hq.2.1 hq.2.2.1 m hh).elim)
   rw [el,Option.bind_some];refine .inr ⟨(⟨g,xs,w,Y2⟩,((t+1:Nat):Int)),⟨t+1,Y2,rfl,rfl,ht,⟨s2.shp,s2.len,s2.env,s2.oth,by have:=s2.ri.up c2;rwa [show ((t:Int)+1)=((t+1:Nat):Int) by omega] at this,fun r c hr hc hlt=>?_,fun r c hr hc hlt m=>s2.hi r c hr hc (by omega) m⟩,fun r c hr hc he m=>s2.hi r c hr hc (by omega) m⟩,by simp;omega,rfl⟩
   by_cases e:rd xs (rd g.Rules (r:Int)).Head=t
   ·exact f2 r c hr hc e
   ·exact s2.lo r c hr hc (by omega)
  ·rw [if_neg (by show ¬ (t:Int)<(g.Names.length:Int);omega)];have:t=g.Names.length:=by omega
   subst this;refine .inl ⟨_,rfl,Y,rfl,k2.shp,k2.len,k2.env,k2.oth,k2.ri.done hlv fun y y1 y2=>by have:=hx.l1 y y1 y2;omega,fun r c hr hc=>k2.lo r c hr hc (by have:=hx.hd hr;have:=hx.l1 _ this.1 this.2;omega)⟩
 ·refine ⟨h,hl,fun _ _ _ _=>Iff.rfl,fun _ _ _ _ _ _=>Iff.rfl,?_,fun r c hr hc hlt=>?_,fun r c _ _ _ m=>hz r c m⟩
  ·refine RI_on (RI.zero hx.l0 hlv) (fun y _ _=>?_) hlv;exact ⟨fun z=>hn y z,fun z=>z.elim⟩
  ·have:=hx.hd hr;have:=hx.l0 _ this.1 this.2;omega
structure Good (g:Grammar)(xs w:List Int)(X:List L1):Prop where
 shp:Shp g X
 len:X.length=w.length+1
 pm:PMs g.Names.length g.Rules (rd xs) (wf w) w.length (NS X)
 full:∀ r c,r<g.Rules.length→c<nc g r→∀ i k,i≤k→k≤w.length→Full g X (NS X) w i k r c
theorem turn_l0 (K:Nat)(hK:200000≤K)(g:Grammar)(xs w:List Int)(X0:List L1)(hx:CX g xs w)(h:Shp g X0)(hl:X0.length=w.length+1)
  (hpm:∀ i k,i≤k→k<w.length→PM1 g.Names.length g.Rules (rd xs) (HS (NS X0) (wf w) i k) fun x=>NS X0 x i k)
  (hp:∀ r c,r<g.Rules.length→c<nc g r→∀ i k,i≤k→k<w.length→Full g X0 (NS X0) w i k r c) (hz:∀ r c m i,¬ BS X0 r c m i w.length) (hn:∀ (x:Int) i,¬ NS X0 x i w.length) :
  ∃ X' u,f4.l0 K K (⟨g,xs,w,X0⟩,(w.length:Int))=some (⟨g,xs,w,X'⟩,u)∧Good g xs w X':=by
 have q1:=hx.wl;have key:=rounds (σ:=V0×Int) (ρ:=V0×Int) (L:=f4.l0 K)
  (fun s=>∃ (d:Nat) (Y:List L1),s.2=(d:Int)-1∧s.1=⟨g,xs,w,Y⟩∧d≤w.length+1∧Shp g Y∧Y.length=w.length+1 ∧
   (∀ x a b,¬ (d≤a∧b=w.length)→(NS Y x a b↔NS X0 x a b))∧(∀ r c m a b,¬ (d≤a∧b=w.length)→(BS Y r c m a b↔BS X0 r c m a b)) ∧
   (∀ i,d≤i→i≤w.length→PM1 g.Names.length g.Rules (rd xs) (HS (NS Y) (wf w) i w.length) fun x=>NS Y x i w.length) ∧
   (∀ r c,r<g.Rules.length→c<nc g r→∀ i,d≤i→i≤w.length→Full g Y (NS Y) w i w.length r c))
  (fun s=>(s.2+1).toNat) (fun ρ=>∃ Y,ρ.1=⟨g,xs,w,Y⟩∧Good g xs w Y) ?_ K (⟨g,xs,w,X0⟩,(w.length:Int)) ⟨w.length+1,X0,by simp,rfl,Nat.le_refl _,h,hl,fun _ _ _ _=>Iff.rfl,fun _ _ _ _ _ _=>Iff.rfl,fun i h1 h2=>by omega,fun r c _ _ i h1 h2=>by omega⟩ (by simp;omega)
 ·obtain ⟨⟨E,u⟩,e1,Y,e2,h1⟩:=key;simp only at e2;subst e2;exact ⟨Y,u,e1,h1⟩
 ·rintro ⟨E,u⟩ mm ⟨d,Y,rfl,e2,k1,k2,k3,k4,k5,k6,k7⟩;simp only at e2;subst e2;simp only [f4.l0]
  cases d with
  | zero =>
   rw [if_neg (by simp)];refine .inl ⟨_,rfl,Y,rfl,k2,k3,fun i k hik hk=>?_,fun r c hr hc i k hik hk=>?_⟩
   ·by_cases e:k=w.length
    ·subst e;exact k6 i (Nat.zero_le _) hik
    ·have h1:=(hpm i k hik (by omega)).env hx.lv (B:=NS Y) fun y _ _ a b _ _ h3 _=>(k4 y a b (fun x=>by omega)).symm
     have h2:(fun x=>NS X0 x i k)=fun x=>NS Y x i k:=by funext x;exact propext (k4 x i k (fun z=>e z.2)).symm
     rw [← h2];exact h1
   ·by_cases e:k=w.length
    ·subst e;exact k7 r c hr hc i (Nat.zero_le _) hik
    ·intro m hm;rw [k5 r c m i k (fun z=>e z.2),hp r c hr hc i k hik (by omega) m hm];exact (SeqS_env fun s _ _ a b _ _ h3=>k4 s.Name a b (fun x=>by omega)).symm
  | succ d =>
   have e0:(((d+1:Nat):Int)-1)=(d:Int):=by omega
   have e1:IntKind.wrap .i64 ((d:Int)-1)=(d:Int)-1:=by rw [wr (by omega) (by omega)]
   rw [if_pos (by omega)];simp only [e0,e1];obtain ⟨Z,u2,el,hd⟩:=turn_l1 K hK g xs w Y hx d (by omega) k2 k3 (fun r c hr hc k g1 g2 m hm=>by
     rw [k5 r c m d k (fun x=>by omega),hp r c hr hc d k g1 g2 m hm];exact (SeqS_env fun s _ _ a b _ _ h3=>k4 s.Name a b (fun x=>by omega)).symm) (fun r c m hh=>hz r c m d ((k5 r c m d w.length (fun x=>by omega)).1 hh)) (fun x hh=>hn x d ((k4 x d w.length (fun z=>by omega)).1 hh))
   rw [el,Option.bind_some];refine .inr ⟨(⟨g,xs,w,Z⟩,(d:Int)-1),⟨d,Z,rfl,rfl,by omega,hd.shp,hd.len,fun x a b hh=>?_,fun r c m a b hh=>?_,fun i h1 h2=>?_,fun r c hr hc i h1 h2=>?_⟩,by simp,rfl⟩
   ·rw [hd.env x a b (fun z=>hh ⟨by omega,z.2⟩)];exact k4 x a b fun z=>hh ⟨by omega,z.2⟩
   ·rw [hd.oth r c m a b (fun z=>hh ⟨by omega,z.1⟩)];exact k5 r c m a b fun z=>hh ⟨by omega,z.2⟩
   ·by_cases e:i=d
    ·subst e;exact hd.pm.env hx.lv fun y _ _ a b _ _ _ h4=>(hd.env y a b h4).symm
    ·have h3:=(k6 i (by omega) h2).env hx.lv (B:=NS Z) fun y _ _ a b h4 _ _ _=>(hd.env y a b (fun z=>by omega)).symm
     have h4:(fun x=>NS Y x i w.length)=fun x=>NS Z x i w.length:=by funext x;exact propext (hd.env x i w.length (fun z=>e z.1)).symm
     rw [← h4];exact h3
   ·by_cases e:i=d
    ·subst e;exact hd.full r c hr hc
    ·intro m hm;rw [hd.oth r c m i w.length (fun z=>e z.2),k7 r c hr hc i (by omega) h2 m hm];exact (SeqS_env fun s _ _ a b h4 _ _=>hd.env s.Name a b (fun z=>by omega)).symm
theorem fresh_spec (K:Nat)(hK:200000≤K)(g:Grammar)(xs w:List Int)(X:List L1)(hx:CX g xs w) :
  V5 K ⟨g,xs,w,X⟩=some ⟨List.replicate g.Names.length 0,g.Rules.map fun r=>r.Conj.map fun c=>List.replicate (c.Seq.length+1) 0⟩:=by
 have q1:=hx.nl;have q2:=hx.rl;unfold V5;rw [if_pos (by show (8:Int)*(g.Names.length:Int)≤_;omega)];have hl1:∀ r,r<g.Rules.length→∀ k c m,c+k=nc g r→k<m→V5.l1 K ⟨g,xs,w,X⟩ r m (((rd g.Rules (r:Int)).Conj.take c).map fun c=>List.replicate (c.Seq.length+1) (0:Int),(c:Int))=some ((rd g.Rules (r:Int)).Conj.map fun c=>List.replicate (c.Seq.length+1) (0:Int),(nc g r:Int)):=by
  intro r hr k;have q3:=hx.cl hr
  induction k with
  | zero =>
   intro c m hc hm;obtain ⟨m,rfl⟩:∃ q,m=q+1:=⟨m-1,by omega⟩
   have:c=nc g r:=by omega
   subst this;simp only [V5.l1];rw [if_neg (by show ¬ ((nc g r:Nat):Int)<((nc g r:Nat):Int);omega)];simp
  | succ k ih =>
   intro c m hc hm;obtain ⟨m,rfl⟩:∃ q,m=q+1:=⟨m-1,by omega⟩
   have q4:=hx.ql hr (show c<nc g r by omega);have e1:IntKind.wrap .i64 ((c:Int)+1)=((c+1:Nat):Int):=by rw [wr (by omega) (by omega)];omega
   have e2:IntKind.wrap .i64 (((sq g r c).length:Int)+1)=(((sq g r c).length+1:Nat):Int):=by rw [wr (by omega) (by omega)];omega
   simp only [V5.l1];simp only [e1];rw [if_pos (by show (c:Int)<((nc g r:Nat):Int);omega),if_pos (by omega),if_pos (by show 0≤IntKind.wrap .i64 (((sq g r c).length:Int)+1);rw [e2];omega),if_pos (by show (8:Int)*IntKind.wrap .i64 (((sq g r c).length:Int)+1)≤_;rw [e2];omega),if_pos (by rw [List.length_map,List.length_take];have:(rd g.Rules (r:Int)).Conj.length≤8:=q3;omega)];rw [← ih (c+1) m (by omega) (by omega),take_succ_rd (show c<(rd g.Rules (r:Int)).Conj.length from show c<nc g r by omega),List.map_append]
   congr 2
   show _=_++[List.replicate ((sq g r c).length+1) (0:Int)];show _++[List.replicate (IntKind.wrap .i64 (((sq g r c).length:Int)+1)).toNat (0:Int)]=_;rw [e2,Int.toNat_natCast]
 have hl0:∀ k r m,r+k=g.Rules.length→k<m→V5.l0 K ⟨g,xs,w,X⟩ m ((g.Rules.take r).map fun r=>r.Conj.map fun c=>List.replicate (c.Seq.length+1) (0:Int),(r:Int))=some (g.Rules.map fun r=>r.Conj.map fun c=>List.replicate (c.Seq.length+1) (0:Int),(g.Rules.length:Int)):=by
  intro k
  induction k with
  | zero =>
   intro r m hc hm;obtain ⟨m,rfl⟩:∃ q,m=q+1:=⟨m-1,by omega⟩
   have:r=g.Rules.length:=by omega
   subst this;simp only [V5.l0];rw [if_neg (by simp)];simp
  | succ k ih =>
   intro r m hc hm;obtain ⟨m,rfl⟩:∃ q,m=q+1:=⟨m-1,by omega⟩
   have e1:IntKind.wrap .i64 ((r:Int)+1)=((r+1:Nat):Int):=by rw [wr (by omega) (by omega)];omega
   have q3:=hx.cl (show r<g.Rules.length by omega);have:=hl1 r (by omega) (nc g r) 0 K (by omega) (by omega);simp only [List.take_zero,List.map_nil,Int.natCast_zero] at this;simp only [V5.l0];simp only [e1];rw [if_pos (by show (r:Int)<(g.Rules.length:Int);omega),if_pos (by omega),this,Option.bind_some];simp only;rw [if_pos (by simp;omega),← ih (r+1) m (by omega) (by omega),take_succ_rd (show r<g.Rules.length by omega),List.map_append];rfl
 have:=hl0 g.Rules.length 0 K (by omega) (by omega);simp only [List.take_zero,List.map_nil,Int.natCast_zero] at this;rw [this,Option.bind_some];rfl
theorem turn_spec (K:Nat)(hK:200000≤K)(g:Grammar)(xs w:List Int)(X:List L1)(hx:CX g xs w)(hl:X.length=w.length)(h:Shp g X)
  (hpm:∀ i k,i≤k→k<w.length→PM1 g.Names.length g.Rules (rd xs) (HS (NS X) (wf w) i k) fun x=>NS X x i k)
  (hp:∀ r c,r<g.Rules.length→c<nc g r→∀ i k,i≤k→k<w.length→Full g X (NS X) w i k r c) :
  ∃ X',f4 K ⟨g,xs,w,X⟩=some ⟨g,xs,w,X'⟩∧Good g xs w X':=by
 have q1:=hx.wl
 let s:L1:=⟨List.replicate g.Names.length 0,g.Rules.map fun r=>r.Conj.map fun c=>List.replicate (c.Seq.length+1) 0⟩
 have lt:∀ k,k<w.length→rd (X++[s]) (k:Int)=rd X (k:Int):=fun k hk=>rd_app_lt (by omega)
 have at_:rd (X++[s]) (w.length:Int)=s:=by rw [← hl];exact rd_app_at
 have out:∀ k,w.length<k→rd (X++[s]) (k:Int)=rd X (k:Int):=fun k hk=>by rw [rd_out (by simp;omega),rd_out (by omega)]
 have hsg:∀ k r c,k≠w.length→sg (X++[s]) k r c=sg X k r c:=fun k r c hk=>by
  unfold sg
  by_cases e:k<w.length
  ·rw [lt k e]
  ·rw [out k (by omega)]
 have hns:∀ (x:Int) i k,k≠w.length→(NS (X++[s]) x i k↔NS X x i k):=fun x i k hk=>by
  unfold NS
  by_cases e:k<w.length
  ·rw [lt k e]
  ·rw [out k (by omega)]
 have srow:∀ r,r<g.Rules.length→rd s.begun (r:Int)=(rd g.Rules (r:Int)).Conj.map fun c=>List.replicate (c.Seq.length+1) 0:=fun r hr=>rd_map hr
 have ssg:∀ r c,r<g.Rules.length→c<nc g r→sg (X++[s]) w.length r c=List.replicate ((sq g r c).length+1) 0:=fun r c hr hc=>by
  unfold sg;rw [at_,srow r hr];exact rd_map hc
 have rep0:∀ (n m:Nat),rd (List.replicate n (0:Int)) (m:Int)=0:=fun n m=>by
  by_cases e:m<n
  ·exact rd_rep 0 e
  ·rw [rd_out (by simp;omega)];rfl
 have hz:∀ r c m i,¬ BS (X++[s]) r c m i w.length:=fun r c m i hh=>by
  unfold BS at hh
  by_cases hr:r<g.Rules.length
  ·by_cases hc:c<nc g r
   ·rw [ssg r c hr hc,rep0,bit0] at hh;cases hh
   ·have:sg (X++[s]) w.length r c=[]:=by unfold sg;rw [at_,srow r hr,rd_out (by rw [List.length_map];exact Nat.le_of_not_lt hc)];rfl
    rw [this,rd_out (by simp)] at hh;have:bit (default:Int) i=false:=bit0 i;rw [this] at hh;cases hh
  ·have:sg (X++[s]) w.length r c=[]:=by unfold sg;rw [at_,rd_out (xs:=s.begun) (by simp [s];omega)];exact rd_out (by simp [default,instInhabitedList])
   rw [this,rd_out (by simp)] at hh;have:bit (default:Int) i=false:=bit0 i;rw [this] at hh;cases hh
 have hn:∀ (x:Int) i,¬ NS (X++[s]) x i w.length:=fun x i hh=>by
  unfold NS at hh;rw [at_] at hh;have:rd s.names x=0:=by
   obtain ⟨y,ey⟩:∃ y:Nat,rd s.names x=rd s.names (y:Int):=⟨x.toNat,by unfold rd;rw [Int.toNat_natCast]⟩
   rw [ey];exact rep0 _ _
  rw [this,bit0] at hh;cases hh
 have hshp:Shp g (X++[s]):=by
  have lk:∀ k,k<(X++[s]).length→k=w.length∨k<w.length:=fun k hk=>by simp at hk;omega
  refine ⟨fun k hk=>?_,fun k hk x hx'=>?_,fun k hk=>?_,fun k hk r hr=>?_,fun k hk r hr c hc=>?_,fun k hk r hr c hc m hm=>?_⟩
  all_goals rcases lk k hk with e|e
  ·rw [e,at_];simp [s]
  ·rw [lt k e];exact h.n1 k (by omega)
  ·rw [e,at_,show rd s.names (x:Int)=0 from rep0 _ _];exact okW0
  ·rw [lt k e];exact h.n2 k (by omega) x hx'
  ·rw [e,at_];simp [s]
  ·rw [lt k e];exact h.b1 k (by omega)
  ·rw [e,at_,srow r hr,List.length_map]
  ·rw [lt k e];exact h.b2 k (by omega) r hr
  ·rw [e,ssg r c hr hc];simp
  ·rw [hsg k r c (by omega)];exact h.b3 k (by omega) r hr c hc
  ·rw [e,ssg r c hr hc,rep0];exact okW0
  ·rw [hsg k r c (by omega)];exact h.b4 k (by omega) r hr c hc m hm
 unfold f4;rw [fresh_spec K hK g xs w X hx,Option.bind_some,if_pos (by show (X.length+1)*48≤_;omega)];obtain ⟨X',u,e1,hg⟩:=turn_l0 K hK g xs w (X++[s]) hx hshp (by simp [hl]) (fun i k hik hk=>by
   have h1:=(hpm i k hik hk).env hx.lv (B:=NS (X++[s])) fun y _ _ a b _ _ h3 _=>(hns y a b (by omega)).symm
   have h2:(fun x=>NS X x i k)=fun x=>NS (X++[s]) x i k:=by funext x;exact propext (hns x i k (by omega)).symm
   rw [← h2];exact h1) (fun r c hr hc i k hik hk m hm=>by
   have hb:BS (X++[s]) r c m i k↔BS X r c m i k:=by unfold BS;rw [hsg k r c (by omega)]
   rw [hb,hp r c hr hc i k hik hk m hm];exact (SeqS_env fun s' _ _ a b _ _ h3=>hns s'.Name a b (by omega)).symm) hz hn
 erw [e1];exact ⟨X',rfl,hg⟩
def EngC (g:Grammar)(xs w:List Int)(e:V0):Prop:=∃ X,e=⟨g,xs,w,X⟩∧CX g xs w∧Good g xs w X
theorem cFeed_spec (K:Nat)(hK:200000≤K){g:Grammar}{xs w:List Int}{e:V0}(h:EngC g xs w e)(c:Int) :
  (c<0∨255<c)∧ja K e c=some (1600,e)∨(0≤c∧c≤255)∧w.length=32∧ja K e c=some (1601,e) ∨
  (0≤c∧c≤255)∧w.length<32∧∃ e',ja K e c=some (0,e')∧EngC g xs (w++[c]) e':=by
 obtain ⟨X,rfl,hx,hg⟩:=h;have q1:=hx.wl;unfold ja
 by_cases h1:c<0
 ·rw [if_pos h1];exact .inl ⟨.inl h1,rfl⟩
 ·rw [if_neg h1]
  by_cases h2:255<c
  ·rw [if_pos h2];exact .inl ⟨.inr h2,rfl⟩
  ·rw [if_neg h2]
   by_cases h3:32≤(w.length:Int)
   ·rw [if_pos h3];exact .inr (.inl ⟨by omega,by omega,rfl⟩)
   ·rw [if_neg h3];refine .inr (.inr ⟨by omega,by omega,?_⟩);have hw:∀ k,k<w.length→wf (w++[c]) k=wf w k:=fun k hk=>rd_app_lt hk
    have hx':CX g xs (w++[c]):=⟨hx.may,hx.xl,hx.lv,hx.l0,hx.l1,by simp;omega,fun k hk=>by
     by_cases e:k<w.length
     ·rw [rd_app_lt e];exact hx.wb k e
     ·have:k=w.length:=by simp at hk;omega
      subst this;rw [rd_app_at];omega⟩
    obtain ⟨X',et,hg'⟩:=turn_spec K hK g xs (w++[c]) X hx' (by simp [hg.len]) hg.shp (fun i k hik hk=>(hg.pm i k hik (by simp at hk;omega)).wd fun q hq=>(hw q (by simp at hk;omega)).symm) (fun r cc hr hc i k hik hk m hm=>by
     rw [hg.full r cc hr hc i k hik (by simp at hk;omega) m hm];exact ⟨SeqS_word fun q hq=>(hw q (by simp at hk;omega)).symm,SeqS_word fun q hq=>hw q (by simp at hk;omega)⟩)
    rw [if_pos (by show (w.length+1)*1≤_;omega),wb (by omega) (by omega)];erw [et];exact ⟨_,rfl,X',rfl,hx',hg'⟩
theorem cIn_spec (K:Nat){g:Grammar}{xs w:List Int}{e:V0}(h:EngC g xs w e):∃ b,Ga K e=some b∧∃ N,PMs g.Names.length g.Rules (rd xs) (wf w) w.length N∧(b=true↔N g.Start 0 w.length):=by
 obtain ⟨X,rfl,hx,hg⟩:=h;have hm:=hx.may;have n1:=hg.shp.n1 w.length (by rw [hg.len];omega);have hlen:=hg.len;obtain ⟨s,es⟩:∃ s:Nat,g.Start=(s:Int):=⟨g.Start.toNat,by have:=hm.2.1;omega⟩
 have n2:=hg.shp.n2 w.length (by rw [hg.len];omega) s (by have:=hm.2.2.1;omega);unfold Ga;rw [if_pos (by show (w.length:Int)<(X.length:Int);omega),if_pos hm.2.1,if_pos (by show g.Start<_;rw [n1];exact hm.2.2.1)];refine ⟨_,rfl,NS X,hg.pm,?_⟩;rw [decide_eq_true_eq];show (iand .u64 (rd (rd X (w.length:Int)).names g.Start) 1)=1↔bit (rd (rd X (w.length:Int)).names g.Start) 0=true;rw [es,and_one n2];exact iff1 (p:=True) (by decide) _
theorem cNew_spec (K:Nat)(hK:200000≤K)(g:Grammar):(∃ s,StrOut g s∧s.2.2≠0∧jd K g=some (none,1600))∨∃ xs e,StrOut g (xs,[],0)∧jd K g=some (some e,0)∧EngC g xs [] e:=by
 obtain ⟨s,hs,ho⟩:=Strata_spec K hK g;unfold jd;rw [hs,Option.bind_some]
 by_cases h0:s.2.2=0
 ·obtain ⟨hm,hno,xs,hx,rfl⟩:=ho.fine h0;rw [if_neg (fun h=>h rfl),mCopy_spec K (by omega) g hm,Option.bind_some];have hf:=ho.lvf;have hx:CX g xs []:=⟨hf.may,hf.xl,hf.lv,hf.l0,hf.l1,by simp,fun k hk=>by simp at hk⟩
  obtain ⟨X,et,hg⟩:=turn_spec K hK g xs [] [] hx rfl ⟨fun k hk=>by simp at hk,fun k hk=>by simp at hk,fun k hk=>by simp at hk,fun k hk=>by simp at hk,fun k hk=>by simp at hk,fun k hk=>by simp at hk⟩ (fun i k _ hk=>by simp at hk) (fun r c _ _ i k _ hk=>by simp at hk);refine .inr ⟨xs,⟨g,xs,[],X⟩,ho,?_,X,rfl,hx,hg⟩;erw [et];rfl
 ·rw [if_pos h0];exact .inl ⟨s,ho,h0,rfl⟩
theorem RuleS_occ {w:Nat→Int}{r:Rule}{A B:Sp}{i j:Nat}(h:∀ c ∈ r.Conj,∀ s ∈ c.Seq,0≤s.Name→∀ a b,i≤a→a≤b→b≤j→(A s.Name a b→B s.Name a b)∧(c.Neg=true→B s.Name a b→A s.Name a b))(hr:RuleS A w r i j):RuleS B w r i j:=by
 intro c hc;have hh:=hr c hc;have up:SeqS A w c.Seq i j→SeqS B w c.Seq i j:=SeqS_mono fun s hs h0 a b h1 h2 h3=>(h c hc s hs h0 a b h1 h2 h3).1
 constructor
 ·intro hn hb;exact hh.1 hn (SeqS_mono (fun s hs h0 a b h1 h2 h3=>(h c hc s hs h0 a b h1 h2 h3).2 hn) hb)
 ·intro hb;exact hh.2 fun ha=>hb (up ha)
theorem PM1.two {n:Nat}{rs:List Rule}{lv lv':Int→Int}{w:Nat→Int}{N:Sp}{i j:Nat}(hl:LvS n rs lv)(hl':LvS n rs lv')(h0:∀ y:Int,0≤y→y<n→0≤lv y)(h0':∀ y:Int,0≤y→y<n→0≤lv' y){A B:Int→Prop}
  (hA:PM1 n rs lv (HS N w i j) A) (hB:PM1 n rs lv' (HS N w i j) B):∀ x:Int,0≤x→x<n→(A x↔B x):=by
 have key:∀ t:Nat,∀ x:Int,0≤x→x<n→lv x<t→(A x↔B x):=by
  intro t
  induction t with
  | zero=>intro x h1 h2 h3;have:=h0 x h1 h2;omega
  | succ t ih =>
   have ab:∀ x:Int,0≤x→x<n→lv x=t→A x→B x:=fun x h1 h2 h3=>hA.mi t B (fun y y1 y2 y3=>(ih y y1 y2 y3).symm) (fun r hr _ h=>hB.cl r hr h) x h1 h2 h3
   have ba:∀ t':Nat,∀ x:Int,0≤x→x<n→lv x=t→lv' x<t'→B x→A x:=by
    intro t'
    induction t' with
    | zero=>intro x h1 h2 _ h3;have:=h0' x h1 h2;omega
    | succ t' ih' =>
     intro x h1 h2 h3 h4
     by_cases h5:lv' x<t'
     ·exact ih' x h1 h2 h3 h5
     ·intro hb;have:=hB.mi t' (fun y=>if lv y=t∧lv' y=t' then A y else B y) (fun y y1 y2 y3=>by rw [if_neg (fun z=>by omega)]) (fun r hr ht hH=>?_) x h1 h2 (by omega) hb
      ·rwa [if_pos ⟨h3,by omega⟩] at this
      ·have hb:=hl r hr;have hb':=hl' r hr
       by_cases e:lv r.Head=t
       ·rw [if_pos ⟨e,ht⟩];refine hA.cl r hr (RuleS_occ (fun c hc s hs hs0 a b _ _ _=>?_) hH);have q:=hb.2 c hc s hs hs0;have q':=hb'.2 c hc s hs hs0;unfold upd
        by_cases hab:a=i∧b=j
        ·rw [if_pos hab,if_pos hab];constructor
         ·intro hm
          by_cases e2:lv s.Name=t∧lv' s.Name=t'
          ·rwa [if_pos e2] at hm
          ·rw [if_neg e2] at hm
           by_cases e3:lv s.Name<t
           ·exact (ih _ hs0 q.1 e3).2 hm
           ·have e4:lv s.Name=t:=by
             have:=q.2;split at this <;> omega
            exact ih' _ hs0 q.1 e4 (by have:=q'.2;split at this <;> omega) hm
         ·intro hn ha;rw [hn] at q;have e3:lv s.Name<t:=by have:=q.2;simp at this;omega
          rw [if_neg (fun z=>by omega)];exact (ih _ hs0 q.1 e3).1 ha
        ·rw [if_neg hab,if_neg hab];exact ⟨id,fun _=>id⟩
       ·rw [if_neg (fun z=>e z.1)];refine hB.cl r hr (RuleS_occ (fun c hc s hs hs0 a b _ _ _=>?_) hH);have q:=hb.2 c hc s hs hs0;have q':=hb'.2 c hc s hs hs0;unfold upd
        by_cases hab:a=i∧b=j
        ·rw [if_pos hab,if_pos hab];constructor
         ·intro hm
          by_cases e2:lv s.Name=t∧lv' s.Name=t'
          ·rw [if_pos e2] at hm;exact ab _ hs0 q.1 e2.1 hm
          ·rwa [if_neg e2] at hm
         ·intro hn hbb;rw [hn] at q';rw [if_neg (fun z=>by have:=q'.2;simp at this;omega)];exact hbb
        ·rw [if_neg hab,if_neg hab];exact ⟨id,fun _=>id⟩
   intro x h1 h2 h3
   by_cases h4:lv x<t
   ·exact ih x h1 h2 h4
   ·have h5:lv x=t:=by omega
    exact ⟨ab x h1 h2 h5,ba (lv' x+1).toNat x h1 h2 h5 (by have:=h0' x h1 h2;omega)⟩
 intro x h1 h2;exact key (lv x+1).toNat x h1 h2 (by have:=h0 x h1 h2;omega)
theorem PMs.two {n:Nat}{rs:List Rule}{lv lv':Int→Int}{w:Nat→Int}{L:Nat}(hl:LvS n rs lv)(hl':LvS n rs lv')(h0:∀ y:Int,0≤y→y<n→0≤lv y)(h0':∀ y:Int,0≤y→y<n→0≤lv' y){A B:Sp}(hA:PMs n rs lv w L A)(hB:PMs n rs lv' w L B):∀ i j,i≤j→j≤L→∀ x:Int,0≤x→x<n→(A x i j↔B x i j):=by
 have key:∀ d i j,j-i<d→i≤j→j≤L→∀ x:Int,0≤x→x<n→(A x i j↔B x i j):=by
  intro d
  induction d with
  | zero=>intro i j h;omega
  | succ d ih =>
   intro i j hd hij hj;have e:∀ y:Int,0≤y→y<n→∀ a b,i≤a→a≤b→b≤j→¬ (a=i∧b=j)→(A y a b↔B y a b):=fun y y1 y2 a b h1 h2 h3 h4=>ih a b (by omega) h2 (by omega) y y1 y2
   exact PM1.two hl hl' h0 h0' ((hA i j hij hj).env hl e) (hB i j hij hj)
 intro i j hij hj;exact key (j-i+1) i j (by omega) hij hj
theorem PMs.of {n:Nat}{rs:List Rule}{lv:Int→Int}{w:Nat→Int}{L:Nat}{N:Sp}(cl:∀ r ∈ rs,∀ i j,i≤j→j≤L→RuleS N w r i j→N r.Head i j)
  (su:∀ x:Int,0≤x→x<n→∀ i j,i≤j→j≤L→N x i j→∃ r ∈ rs,r.Head=x∧∀ M:Int→Prop,(∀ y:Int,0≤y→y<n→lv y<lv x→(M y↔N y i j))→RuleS (upd N i j M) w r i j):PMs n rs lv w L N:=fun i j hij hj =>
 ⟨fun r hr hH=>cl r hr i j hij hj (by unfold HS at hH;rwa [upd_self] at hH),fun x h1 h2 hx=>let ⟨r,hr,e,hh⟩:=su x h1 h2 i j hij hj hx;⟨r,hr,e,hh (fun y=>N y i j) fun _ _ _ _=>Iff.rfl⟩,fun t M hM hc y h1 h2 hy hx=>by
  obtain ⟨r,hr,e,hh⟩:=su y h1 h2 i j hij hj hx;rw [← e];exact hc r hr (by rw [e];exact hy) (hh M fun z z1 z2 z3=>hM z z1 z2 (by omega))⟩
theorem Rule1 {N:Sp}{w:Nat→Int}{h:Int}{l:List Symbol}{i j:Nat}:RuleS N w ⟨h,[⟨false,l⟩]⟩ i j↔SeqS N w l i j:=by
 unfold RuleS;simp
theorem Rule1n {N:Sp}{w:Nat→Int}{h:Int}{l:List Symbol}{i j:Nat}:RuleS N w ⟨h,[⟨true,l⟩]⟩ i j↔¬ SeqS N w l i j:=by
 unfold RuleS;simp
theorem Seq_nil {N:Sp}{w:Nat→Int}{i j:Nat}:SeqS N w [] i j↔i=j:=Iff.rfl
theorem Seq_byte {N:Sp}{w:Nat→Int}{lo hi:Int}{l:List Symbol}{i j:Nat}:SeqS N w (⟨-1,lo,hi⟩::l) i j↔(i<j∧lo≤w i∧w i≤hi)∧SeqS N w l (i+1) j:=by
 constructor
 ·rintro ⟨k,h1,h2,h3,h4⟩;unfold SymS at h3;rw [if_neg (show ¬ (0:Int)≤-1 by decide)] at h3;obtain ⟨e,h5,h6⟩:=h3;subst e;exact ⟨⟨by omega,h5,h6⟩,h4⟩
 ·rintro ⟨⟨h1,h2,h3⟩,h4⟩;exact ⟨i+1,by omega,by omega,by unfold SymS;rw [if_neg (show ¬ (0:Int)≤-1 by decide)];exact ⟨rfl,h2,h3⟩,h4⟩
theorem Seq_name {N:Sp}{w:Nat→Int}{x a b:Int}{l:List Symbol}{i j:Nat}(h0:0≤x):SeqS N w (⟨x,a,b⟩::l) i j↔∃ k,i≤k∧k≤j∧N x i k∧SeqS N w l k j:=by
 have e:∀ k,SymS N w ⟨x,a,b⟩ i k↔N x i k:=fun k=>by unfold SymS;rw [if_pos h0]
 show (∃ k,i≤k∧k≤j∧SymS N w ⟨x,a,b⟩ i k∧SeqS N w l k j)↔_;simp only [e]
theorem Seq_name1 {N:Sp}{w:Nat→Int}{x a b:Int}{i j:Nat}(h0:0≤x)(hij:i≤j):SeqS N w [⟨x,a,b⟩] i j↔N x i j:=by
 rw [Seq_name h0];exact ⟨fun ⟨k,_,_,h,e⟩=>by rw [Seq_nil] at e;rwa [← e],fun h=>⟨j,hij,Nat.le_refl _,h,rfl⟩⟩
theorem upd_at {N:Sp}{i j:Nat}{M:Int→Prop}{x:Int}:upd N i j M x i j↔M x:=by unfold upd;rw [if_pos ⟨rfl,rfl⟩]
theorem upd_off {N:Sp}{i j a b:Nat}{M:Int→Prop}{x:Int}(h:¬ (a=i∧b=j)):upd N i j M x a b↔N x a b:=by unfold upd;rw [if_neg h]
theorem reach_lv {g:Grammar}(hm:mayP g){lv:Int→Int}(hl:LvS g.Names.length g.Rules lv){a b:Int}(h:Reach (edgesOf g) a b):lv b≤lv a:=by
 induction h with
 | refl=>exact Int.le_refl _
 | @step e _ he ih =>
  obtain ⟨r,hr,c,hc,s,hs,h0,rfl⟩:=(mem_edges g _).1 he;have:=((hl r hr).2 c hc s hs h0).2;have ih':lv r.Head≤lv a:=ih;show lv s.Name≤lv a
  split at this <;> omega
theorem strOut_of {g:Grammar}(hm:mayP g){lv:Int→Int}(hl:LvS g.Names.length g.Rules lv){r:List Int×List Int×Int}(h:StrOut g r):r.2.2=0:=by
 rcases h with ⟨hn,_⟩|⟨_,⟨c,⟨i,hi,hc,_⟩,_⟩|⟨_,xs,_,rfl⟩⟩
 ·exact (hn hm).elim
 ·have hmem:=rd_mem' hi;obtain ⟨q,hq,c,hc2,s,hs,h0,e⟩:=(mem_edges g _).1 hmem;have h1:=((hl q hq).2 c hc2 s hs h0).2;have h2:=reach_lv hm hl hc.2;have h3:=hc.1;rw [e] at h2 h3;have h3':c.Neg=true:=h3;rw [h3'] at h1;have h2':lv q.Head≤lv s.Name:=h2;simp at h1;omega
 ·rfl
def gPlain:Grammar:=(⟨(0:Int),([(⟨#[83]⟩:ByteArray),(⟨#[88]⟩:ByteArray)]:List ByteArray),([(⟨(0:Int),([(⟨true,([(⟨1,(0:Int),(0:Int)⟩:Symbol)]:List Symbol)⟩:Conjunct)]:List Conjunct)⟩:Rule),(⟨1,([(⟨false,([(⟨(-1),97,97⟩:Symbol),(⟨1,(0:Int),(0:Int)⟩:Symbol)]:List Symbol)⟩:Conjunct)]:List Conjunct)⟩:Rule),(⟨1,([(⟨false,([(⟨(-1),97,97⟩:Symbol)]:List Symbol)⟩:Conjunct)]:List Conjunct)⟩:Rule)]:List Rule)⟩:Grammar)
theorem plain_may:mayP gPlain:=by
 obtain ⟨b,h1,h2⟩:=gMay_spec 1000 (Nat.le_refl _) gPlain;refine h2.1 ?_;have:y8 1000 gPlain=some true:=by kernel_rfl
 rw [this] at h1;exact (Option.some.inj h1).symm
def lvPl (y:Int):Int:=if y=0 then 1 else 0
theorem plain_lv:LvS gPlain.Names.length gPlain.Rules lvPl:=by
 intro r hr;simp only [gPlain,List.mem_cons,List.not_mem_nil,or_false] at hr;rcases hr with rfl|rfl|rfl <;> simp [gPlain,lvPl]
def allA (w:Nat→Int)(i j:Nat):Prop:=∀ k,i≤k→k<j→w k=97
def NP (w:Nat→Int):Sp:=fun x i j=>if x=0 then ¬ (i<j∧allA w i j) else i<j∧allA w i j
theorem plain_pm (w:Nat→Int)(L:Nat):PMs gPlain.Names.length gPlain.Rules lvPl w L (NP w):=by
 have n0:∀ i j,NP w 0 i j↔¬ (i<j∧allA w i j):=fun i j=>by unfold NP;rw [if_pos rfl]
 have n1:∀ i j,NP w 1 i j↔(i<j∧allA w i j):=fun i j=>by unfold NP;rw [if_neg (by decide)]
 refine PMs.of (fun r hr i j hij hj h=>?_) fun x x0 x1 i j hij hj hx=>?_
 ·simp only [gPlain,List.mem_cons,List.not_mem_nil,or_false] at hr;rcases hr with rfl|rfl|rfl
  ·rw [Rule1n,Seq_name1 (by decide) hij,n1] at h;exact (n0 i j).2 h
  ·rw [Rule1,Seq_byte] at h;obtain ⟨⟨h1,h2,h3⟩,h4⟩:=h;rw [Seq_name1 (by decide) (by omega),n1] at h4;refine (n1 i j).2 ⟨h1,fun k k1 k2=>?_⟩
   by_cases e:k=i
   ·subst e;omega
   ·exact h4.2 k (by omega) k2
  ·rw [Rule1,Seq_byte,Seq_nil] at h;obtain ⟨⟨h1,h2,h3⟩,h4⟩:=h;refine (n1 i j).2 ⟨h1,fun k k1 k2=>?_⟩;have e:k=i:=by omega
   subst e;omega
 ·have hx2:x=0∨x=1:=by have:(gPlain.Names.length:Int)=2:=rfl;omega
  rcases hx2 with rfl|rfl
  ·refine ⟨_,.head _,rfl,fun M hM=>?_⟩;rw [Rule1n,Seq_name1 (by decide) hij,upd_at,hM 1 (by decide) (by decide) (by decide),n1];exact (n0 i j).1 hx
  ·obtain ⟨h1,h2⟩:=(n1 i j).1 hx;have hi:=h2 i (Nat.le_refl _) h1
   by_cases e:i+1=j
   ·refine ⟨_,.tail _ (.tail _ (.head _)),rfl,fun M _=>?_⟩;rw [Rule1,Seq_byte,Seq_nil];exact ⟨⟨h1,by omega,by omega⟩,e⟩
   ·refine ⟨_,.tail _ (.head _),rfl,fun M _=>?_⟩;rw [Rule1,Seq_byte,Seq_name1 (by decide) (by omega),upd_off (fun z=>by omega),n1];exact ⟨⟨h1,by omega,by omega⟩,by omega,fun k k1 k2=>h2 k (by omega) k2⟩
structure Known (g:Grammar)(lv:Int→Int)(N:(Nat→Int)→Sp):Prop where
 may:mayP g
 st:LvS g.Names.length g.Rules lv
 l0:∀ y:Int,0≤y→y<g.Names.length→0≤lv y
 pm:∀ w L,PMs g.Names.length g.Rules lv w L (N w)
theorem plain_known:Known gPlain lvPl NP:=⟨plain_may,plain_lv,fun y _ _=>by unfold lvPl;split <;> omega,plain_pm⟩
def Byt (xs:List Int):Prop:=∀ v ∈ xs,0≤v∧v<256
theorem strL_app (a b:List Int):strL a++strL b=strL (a++b):=by
 apply ByteArray.ext;simp [strL]
theorem strL_size (a:List Int):(strL a).size=a.length:=by simp [strL,ByteArray.size]
theorem byt_back {xs:List Int}(h:Byt xs):bytesL (strL xs)=xs:=by
 unfold bytesL strL;simp only [List.map_map]
 conv=>rhs;rw [← List.map_id xs]
 apply List.map_congr_left;intro v hv;obtain ⟨h0,h1⟩:=h v hv;simp only [Function.comp,id];have:(UInt8.ofNat v.toNat).toNat=v.toNat % 256:=by simp
 rw [this];omega
theorem bt_rd (s:ByteArray)(i:Int):bt s i=rd (bytesL s) i:=by
 unfold bt rd bytesL;rw [List.getD_eq_getElem?_getD,List.getElem?_map,Array.getD_eq_getD_getElem?,← Array.getElem?_toList];cases s.data.toList[i.toNat]? <;> rfl
theorem bt_strL {xs:List Int}(h:Byt xs)(i:Int):bt (strL xs) i=rd xs i:=by rw [bt_rd,byt_back h]
def lt (s:ByteArray)(i:Nat):Int:=97+bt s (i:Int) % 2
def bs (s:ByteArray)(i:Nat):List Int:=(List.range i).map fun k:Nat=>bt s (k:Int)
set_option maxRecDepth 100000
def FedP (g:Grammar)(w:List Int)(p:V3):Prop:=(∃ xs,EngT g xs w p.tab∧LvF g xs)∧∃ xs,EngC g xs w p.cha∧LvF g xs
theorem pnum (K:Nat)(e:Int):Vf K e=some e:=rfl
theorem pnew_spec (K:Nat)(hK:1000000≤K)(g:Grammar):jb K g=some (none,1700)∨(mayP g∧∃ p,jb K g=some (some p,0)∧FedP g [] p):=by
 unfold jb;rcases tNew_spec K hK g with ⟨s,_,_,h3⟩|⟨xs,e,h1,h2,h3⟩
 ·left;rw [h3,Option.bind_some];rcases cNew_spec K (by omega) g with ⟨_,_,_,c3⟩|⟨_,_,_,c2,_⟩
  ·simp [c3]
  ·simp [c2]
 ·rcases cNew_spec K (by omega) g with ⟨_,_,_,c3⟩|⟨ys,f,c1,c2,c3⟩
  ·left;rw [h2,Option.bind_some];simp [c3]
  ·right;refine ⟨h1.lvf.may,⟨e,f⟩,?_,⟨xs,h3,h1.lvf⟩,ys,c3,c1.lvf⟩;rw [h2,Option.bind_some];simp [c2]
theorem pnew_known (K:Nat)(hK:1000000≤K){g:Grammar}{lv:Int→Int}{N:(Nat→Int)→Sp}(h:Known g lv N):∃ p,jb K g=some (some p,0)∧FedP g [] p:=by
 rcases tNew_spec K hK g with ⟨s,h1,h2,_⟩|⟨xs,e,h1,h2,h3⟩
 ·exact absurd (strOut_of h.may h.st h1) h2
 ·rcases cNew_spec K (by omega) g with ⟨s,c1,c2,_⟩|⟨ys,f,c1,c2,c3⟩
  ·exact absurd (strOut_of h.may h.st c1) c2
  ·refine ⟨⟨e,f⟩,?_,⟨xs,h3,h1.lvf⟩,ys,c3,c1.lvf⟩;unfold jb;rw [h2,Option.bind_some];simp [c2]
theorem pnew_bad (K:Nat)(hK:1000000≤K){g:Grammar}(h:¬ mayP g):jb K g=some (none,1700):=(pnew_spec K hK g).resolve_right fun x=>h x.1
theorem pfeed_ok (K:Nat)(hK:1000000≤K){g:Grammar}{w:List Int}{p:V3}(h:FedP g w p){c:Int}(h0:0≤c)(h1:c≤255)(hl:w.length<32):∃ p',Va K p c=some (0,p')∧FedP g (w++[c]) p':=by
 obtain ⟨⟨xs,hx,fx⟩,ys,hy,fy⟩:=h;rcases tFeed_spec K hK hx c with ⟨h2,_⟩|⟨_,h2,_⟩|⟨_,_,e',h2,h3⟩
 ·omega
 ·omega
 rcases cFeed_spec K (by omega) hy c with ⟨h4,_⟩|⟨_,h4,_⟩|⟨_,_,f',h4,h5⟩
 ·omega
 ·omega
 refine ⟨⟨e',f'⟩,?_,⟨xs,h3.1,fx⟩,ys,h5,fy⟩;unfold Va;rw [h2,Option.bind_some];simp [h4]
theorem pfeed_bad (K:Nat)(hK:1000000≤K){g:Grammar}{w:List Int}{p:V3}(h:FedP g w p){c:Int}(h0:c<0∨255<c):Va K p c=some (1700,p):=by
 obtain ⟨⟨xs,hx,fx⟩,ys,hy,fy⟩:=h;rcases tFeed_spec K hK hx c with ⟨_,h2⟩|⟨h2,_,_⟩|⟨h2,_,_⟩
 ·unfold Va;rw [h2,Option.bind_some];simp [yb]
 ·omega
 ·omega
def Says (K:Nat)(p:V3)(b:Bool):Prop:=W8 K p 0=some (b,0,p)∧W8 K p 1=some (b,0,p)∧W8 K p 2=some (b,0,p)
theorem says_of (K:Nat){p:V3}{b:Bool}(h1:Pa K p.tab=some b)(h2:Ga K p.cha=some b):Says K p b:=by
 refine ⟨?_,?_,?_⟩
 ·simp [W8,h1]
 ·simp [W8,h2]
 ·cases b <;> simp [W8,h1,h2]
theorem pin_spec (K:Nat){g:Grammar}{w:List Int}{p:V3}(h:FedP g w p):∃ b,Says K p b∧∃ xs N,LvF g xs∧PMs g.Names.length g.Rules (rd xs) (fun k=>rd w (k:Int)) w.length N∧(b=true↔N g.Start 0 w.length):=by
 obtain ⟨⟨xs,hx,fx⟩,ys,hy,fy⟩:=h;obtain ⟨b,h1,M,h2,h3⟩:=tIn_spec K hx;obtain ⟨c,h4,N,h5,h6⟩:=cIn_spec K hy;have e:b=c:=by
  have:=PMs.two fx.lv fy.lv fx.l0 fy.l0 h2 h5 0 w.length (Nat.zero_le _) (Nat.le_refl _) g.Start fx.may.2.1 fx.may.2.2.1;rw [← h3,← h6] at this;cases b <;> cases c <;> simp_all
 subst e;exact ⟨b,says_of K h1 h4,xs,M,fx,h2,h3⟩
theorem pin_known (K:Nat){g:Grammar}{lv:Int→Int}{N:(Nat→Int)→Sp}(h:Known g lv N){w:List Int}{p:V3}(hp:FedP g w p):∃ b,Says K p b∧(b=true↔N (fun k=>rd w (k:Int)) g.Start 0 w.length):=by
 obtain ⟨b,h1,xs,M,hf,h2,h3⟩:=pin_spec K hp;exact ⟨b,h1,h3.trans (PMs.two hf.lv h.st hf.l0 h.l0 h2 (h.pm _ _) 0 w.length (Nat.zero_le _) (Nat.le_refl _) g.Start h.may.2.1 h.may.2.2.1)⟩
theorem pin_arg (K:Nat){p:V3}{k:Int}(h:k<0∨2<k):W8 K p k=some (false,1702,p):=by
 unfold W8;rw [if_neg (by omega),if_pos (by omega),if_pos (by omega)]
theorem plen (K:Nat){g:Grammar}{w:List Int}{p:V3}(h:FedP g w p):Gb K p=some ((w.length:Int),p):=by
 obtain ⟨⟨xs,hx,_⟩,_⟩:=h;simp [Gb,tLen_spec K hx]
theorem pnp_start {w:List Int}:NP (fun k=>rd w (k:Int)) gPlain.Start 0 w.length↔¬ (0<w.length∧∀ k:Nat,k<w.length→rd w (k:Int)=97):=by
 show NP (fun k=>rd w (k:Int)) 0 0 w.length↔_;unfold NP allA;rw [if_pos rfl];constructor
 ·intro h hh;exact h ⟨hh.1,fun k _ hk=>hh.2 k hk⟩
 ·intro h hh;exact h ⟨hh.1,fun k hk=>hh.2 k (Nat.zero_le _) hk⟩
theorem pawake (K:Nat)(hK:1000000≤K):Qa K=some true:=by
 obtain ⟨p0,n0,f0⟩:=pnew_known K hK plain_known;have n1:jb K (⟨(0:Int),([]:(List ByteArray)),([]:(List Rule))⟩:Grammar)=some (none,1700):=pnew_bad K hK fun h=>by have:=h.1.1;simp at this
 obtain ⟨p1,n2,f1⟩:=pfeed_ok K hK f0 (c:=97) (by decide) (by decide) (by decide);obtain ⟨b0,⟨_,_,i0⟩,j0⟩:=pin_known K plain_known f0;obtain ⟨b1,⟨i1,_,_⟩,j1⟩:=pin_known K plain_known f1;have l1:=plen K f1;have a1:=pin_arg K (p:=p1) (k:=99) (.inr (by decide));rw [pnp_start] at j0 j1;have t0:b0=true:=j0.2 (by simp);have t1:b1=false:=by
  have hk:∀ k:Nat,k<([]++[97]:List Int).length→rd ([]++[97]:List Int) (k:Int)=97:=fun k h=>by
   have e:k=0:=by simp at h;omega
   subst e;rfl
  rw [← Bool.not_eq_true];exact fun h=>j1.1 h ⟨by decide,hk⟩
 have hp:Qc K=some gPlain:=rfl;subst t0 t1;unfold Qa;simp only [hp,Option.bind_some,n0,n1,pnum,i0,n2,i1,a1,l1];rfl
end Go.Proofs.YtcoineklodmbnaaGreat

