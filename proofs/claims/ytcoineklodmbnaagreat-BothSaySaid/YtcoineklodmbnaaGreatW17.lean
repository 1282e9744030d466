import Derived.Test.YtcoineklodmbnaaGreatW16
set_option linter.unusedVariables false
set_option linter.unusedSimpArgs false
set_option linter.unusedSectionVars false
namespace Go.Proofs.YtcoineklodmbnaaGreat
namespace RT
open S Go.Sort
set_option maxRecDepth 100000
structure RJ (g:Grammar)(lv:Int→Int)(u:Nat→Int)(L:Nat)(t:Int)(N:Sp):Prop where
 a:∀ x:Int,0≤x→x<g.Names.length→∀ i j,i≤j→j≤L→N x i j→lv x≤t
 b:∀ x:Int,0≤x→x<g.Names.length→∀ i j,i≤j→j≤L→N x i j→∃ r ∈ g.Rules,r.Head=x∧RuleS N u r i j
 c:∀ r ∈ g.Rules,lv r.Head<t→∀ i j,i≤j→j≤L→RuleS N u r i j→N r.Head i j
 d:∀ (t':Int) (Q:Sp),(∀ y:Int,0≤y→y<g.Names.length→lv y<t'→∀ i j,i≤j→j≤L→(Q y i j↔N y i j))→(∀ r ∈ g.Rules,lv r.Head=t'→∀ i j,i≤j→j≤L→RuleS Q u r i j→Q r.Head i j)→∀ y:Int,0≤y→y<g.Names.length→lv y=t'→∀ i j,i≤j→j≤L→N y i j→Q y i j
section
variable {g:Grammar}{lv:Int→Int}{u:Nat→Int}{L:Nat}{t:Int}{N N':Sp}
theorem RJ.put (hl:LvS g.Names.length g.Rules lv)(h:RJ g lv u L t N){r:Rule}(hr:r ∈ g.Rules)(ht:lv r.Head=t){i j:Nat}(hij:i≤j)(hj:j≤L)(hH:RuleS N u r i j)
  (hN:∀ y:Int,0≤y→y<g.Names.length→∀ a b,a≤b→b≤L→(N' y a b↔N y a b∨(y=r.Head∧a=i∧b=j))):RJ g lv u L t N':=by
 have hd:=(hl r hr).1;have up:∀ y:Int,0≤y→y<g.Names.length→∀ a b,a≤b→b≤L→N y a b→N' y a b:=fun y y1 y2 a b ab bl hy=>(hN y y1 y2 a b ab bl).2 (.inl hy)
 have lo:∀ y:Int,0≤y→y<g.Names.length→lv y<t→∀ a b,a≤b→b≤L→(N' y a b↔N y a b):=fun y y1 y2 y3 a b ab bl=>by
  rw [hN y y1 y2 a b ab bl];exact ⟨fun z=>z.elim id fun z=>by rw [z.1,ht] at y3;omega,.inl⟩
 have any:∀ q ∈ g.Rules,lv q.Head≤t→∀ a b,a≤b→b≤L→RuleS N u q a b→RuleS N' u q a b:=fun q hq hle a b ab bl hQ =>
  RuleS_mono hl hq (fun y y1 y2 y3 a' b' h1 h2 h3=>(lo y y1 y2 (by omega) a' b' h2 (by omega)).symm) (fun y y1 y2 _ a' b' h1 h2 h3=>up y y1 y2 a' b' h2 (by omega)) hQ
 have dn:∀ q ∈ g.Rules,lv q.Head<t→∀ a b,a≤b→b≤L→RuleS N' u q a b→RuleS N u q a b:=fun q hq hlt a b ab bl hQ =>
  RuleS_mono hl hq (fun y y1 y2 y3 a' b' h1 h2 h3=>lo y y1 y2 (by omega) a' b' h2 (by omega)) (fun y y1 y2 y3 a' b' h1 h2 h3=>(lo y y1 y2 (by omega) a' b' h2 (by omega)).1) hQ
 refine ⟨fun x x1 x2 a b ab bl hx=>?_,fun x x1 x2 a b ab bl hx=>?_,fun q hq hlt a b ab bl hQ=>?_,fun t' Q hQ hc y y1 y2 hy a b ab bl hx=>?_⟩
 ·rcases (hN x x1 x2 a b ab bl).1 hx with hx|hx
  ·exact h.a x x1 x2 a b ab bl hx
  ·rw [hx.1];omega
 ·rcases (hN x x1 x2 a b ab bl).1 hx with hx|⟨rfl,rfl,rfl⟩
  ·obtain ⟨q,hq,e,hH⟩:=h.b x x1 x2 a b ab bl hx;exact ⟨q,hq,e,any q hq (by rw [e];exact h.a x x1 x2 a b ab bl hx) a b ab bl hH⟩
  ·exact ⟨r,hr,rfl,any r hr (by omega) a b ab bl hH⟩
 ·have hq0:=(hl q hq).1;exact up _ hq0.1 hq0.2 a b ab bl (h.c q hq hlt a b ab bl (dn q hq hlt a b ab bl hQ))
 ·by_cases e:t<t'
  ·rcases (hN y y1 y2 a b ab bl).1 hx with hx|⟨rfl,rfl,rfl⟩
   ·have:=h.a y y1 y2 a b ab bl hx;omega
   ·omega
  ·have hQ':∀ z:Int,0≤z→z<g.Names.length→lv z<t'→∀ a b,a≤b→b≤L→(Q z a b↔N z a b):=fun z z1 z2 z3 a b ab bl=>by
    rw [hQ z z1 z2 z3 a b ab bl];exact lo z z1 z2 (by omega) a b ab bl
   rcases (hN y y1 y2 a b ab bl).1 hx with hx|⟨rfl,rfl,rfl⟩
   ·exact h.d t' Q hQ' hc y y1 y2 hy a b ab bl hx
   ·have et:t'=t:=by omega
    subst et;refine hc r hr ht a b ab bl (RuleS_mono hl hr (fun z z1 z2 z3 a' b' h1 h2 h3=>(hQ' z z1 z2 (by omega) a' b' h2 (by omega)).symm) (fun z z1 z2 z3 a' b' h1 h2 h3 q=>?_) hH)
    by_cases e3:lv z<t'
    ·exact (hQ' z z1 z2 e3 a' b' h2 (by omega)).2 q
    ·exact h.d t' Q hQ' hc z z1 z2 (by omega) a' b' h2 (by omega) q
theorem RJ.done (hl:LvS g.Names.length g.Rules lv)(h:RJ g lv u L t N)(ht:∀ y:Int,0≤y→y<g.Names.length→lv y<t):PMs g.Names.length g.Rules lv u L N:=fun i j hij hj=>by
 refine ⟨fun r hr hH=>?_,fun x x1 x2 hx=>?_,fun t' M hM hc y y1 y2 hy hx=>?_⟩
 ·unfold HS at hH;rw [upd_self] at hH;have hq0:=(hl r hr).1;exact h.c r hr (ht _ hq0.1 hq0.2) i j hij hj hH
 ·obtain ⟨r,hr,e,hH⟩:=h.b x x1 x2 i j hij hj hx;exact ⟨r,hr,e,by unfold HS;rw [upd_self];exact hH⟩
 ·have q1:∀ z a b,(fun (x:Int) (a b:Nat)=>if a=i∧b=j then M x∧N x i j else N x a b) z a b→N z a b:=fun z a b q=>by
   simp only at q
   split at q
   ·rename_i e;rw [e.1,e.2];exact q.2
   ·exact q
  have q2:∀ z:Int,0≤z→z<g.Names.length→lv z<t'→∀ a b,(N z a b→(fun (x:Int) (a b:Nat)=>if a=i∧b=j then M x∧N x i j else N x a b) z a b):=fun z z1 z2 z3 a b q=>by
   simp only
   split
   ·rename_i e;rw [e.1,e.2] at q;exact ⟨(hM z z1 z2 z3).2 q,q⟩
   ·exact q
  have key:=h.d t' (fun (x:Int) (a b:Nat)=>if a=i∧b=j then M x∧N x i j else N x a b) (fun z z1 z2 z3 a b _ _=>⟨q1 z a b,q2 z z1 z2 z3 a b⟩) (fun r hr hrt a b ab bl hQ=>?_) y y1 y2 hy i j hij hj hx
  ·have key:if i=i∧j=j then M y∧N y i j else N y i j:=key
   rw [if_pos ⟨rfl,rfl⟩] at key;exact key.1
  ·have hq0:=(hl r hr).1;have hN:N r.Head a b:=h.c r hr (ht _ hq0.1 hq0.2) a b ab bl (RuleS_mono hl hr (fun z z1 z2 z3 a' b' _ _ _=>⟨q1 z a' b',q2 z z1 z2 (by omega) a' b'⟩) (fun z z1 z2 z3 a' b' _ _ _=>q1 z a' b') hQ);show if a=i∧b=j then M r.Head∧N r.Head i j else N r.Head a b
   split
   ·rename_i e
    obtain ⟨rfl,rfl⟩:=e;refine ⟨hc r hr hrt ?_,hN⟩;unfold HS;refine RuleS_mono hl hr (fun z z1 z2 z3 a' b' _ _ _=>?_) (fun z z1 z2 z3 a' b' _ _ _ q=>?_) hQ
    ·(try simp only)
     unfold upd
     split
     ·rename_i e
      exact ⟨fun q=>q.1,fun q=>⟨q,(hM z z1 z2 (by omega)).1 q⟩⟩
     ·exact Iff.rfl
    ·(try simp only at q)
     unfold upd
     split
     ·rename_i e;rw [if_pos e] at q;exact q.1
     ·rename_i e;rw [if_neg e] at q;exact q
   ·exact hN
end
structure TI (g:Grammar)(w:ByteArray)(lv:Int→Int)(t:Int)(ns rs:List Int):Prop where
 nl:ns.length=g.Names.length*wd w
 rl:(rs.length:Int)=total_ g*(wd w:Int)
 ri:RJ g lv (wv w) w.size t (NmS w ns)
 sx:SX g w ns rs
 rx:∀ r:Nat,r<g.Rules.length→lv (rd g.Rules (r:Int)).Head<t→RX g w ns rs r
theorem TI.more {g:Grammar}{w:ByteArray}{lv:Int→Int}{t:Int}{ns rs rs':List Int}(h:TI g w lv t ns rs)(hsx:SX g w ns rs')(he:Ext rs rs'):TI g w lv t ns rs' :=
 ⟨h.nl,by rw [he.1];exact h.rl,h.ri,hsx,fun r hr ht c k hp=>(h.rx r hr ht c k hp).ext hp h.rl he⟩
theorem sfx_sym {g:Grammar}{r c k:Nat}(h:Pl g r c k){s:Symbol}(hs:s ∈ (seqA g r c).drop k):(rd g.Rules (r:Int)) ∈ g.Rules∧(rd (rd g.Rules (r:Int)).Conj (c:Int)) ∈ (rd g.Rules (r:Int)).Conj∧s ∈ (rd (rd g.Rules (r:Int)).Conj (c:Int)).Seq :=
 ⟨rd_mem (by omega) (by have:=h.1;omega),rd_mem (by omega) (by have:=h.2.1;omega),List.mem_of_mem_drop hs⟩
theorem TI.put {g:Grammar}{w:ByteArray}{lv:Int→Int}{t:Int}{ns rs:List Int}(hl:LvS g.Names.length g.Rules lv)(h:TI g w lv t ns rs){r:Nat}(hr:r<g.Rules.length)(ht:lv (rd g.Rules (r:Int)).Head=t){i j:Nat}(hij:i≤j)(hj:j≤w.size)(hh:RuleS (NmS w ns) (wv w) (rd g.Rules (r:Int)) i j) :
  TI g w lv t (ns.set (ni w (rd g.Rules (r:Int)).Head i j).toNat 1) rs∧∀ y:Int,0≤y→y<g.Names.length→∀ a b,a≤b→b≤w.size→(NmS w (ns.set (ni w (rd g.Rules (r:Int)).Head i j).toNat 1) y a b↔NmS w ns y a b∨(y=(rd g.Rules (r:Int)).Head∧a=i∧b=j)):=by
 have hm:=rd_mem (xs:=g.Rules) (i:=(r:Int)) (by omega) (by omega);obtain ⟨⟨r0,r1⟩,_⟩:=hl _ hm;have hnl:=h.nl;have h8:=ni_lt (w:=w) r0 r1 (show i≤w.size by omega) hj;have hN:∀ y:Int,0≤y→y<g.Names.length→∀ a b,a≤b→b≤w.size→(NmS w (ns.set (ni w (rd g.Rules (r:Int)).Head i j).toNat 1) y a b↔NmS w ns y a b∨(y=(rd g.Rules (r:Int)).Head∧a=i∧b=j)):=fun y y1 y2 a b ab bl=>by
  have h9:=ni_lt (g:=g) (w:=w) y1 y2 (show a≤w.size by omega) bl;unfold NmS;rw [rdi_set _ h8.1 (by omega) h9.1];constructor
  ·intro hh
   split at hh
   ·rename_i e
    obtain ⟨rfl,rfl,rfl⟩:=ni_inj (by omega) hj (by omega) bl e;exact .inr ⟨rfl,rfl,rfl⟩
   ·exact .inl hh
  ·rintro (hh|⟨rfl,rfl,rfl⟩)
   ·split
    ·decide
    ·exact hh
   ·rw [if_pos rfl];decide
 refine ⟨⟨by simpa using hnl,h.rl,h.ri.put hl hm ht hij hj hh hN,fun r' c k hp a b ab bl hx=>?_,fun r' hr' ht' c k hp a b ab bl hsuf=>?_⟩,hN⟩
 ·refine SeqS_mono (fun s hs h0 a' b' h1 h2 h3 hy=>?_) (h.sx r' c k hp a b ab bl hx);obtain ⟨m1,m2,m3⟩:=sfx_sym hp hs;have hb:=((hl _ m1).2 _ m2 _ m3 h0).1;exact (hN _ h0 hb a' b' h2 (by omega)).2 (.inl hy)
 ·refine h.rx r' hr' ht' c k hp a b ab bl (SeqS_mono (fun s hs h0 a' b' h1 h2 h3 hy=>?_) hsuf);obtain ⟨m1,m2,m3⟩:=sfx_sym hp hs;have hb:=(hl _ m1).2 _ m2 _ m3 h0;rcases (hN _ h0 hb.1 a' b' h2 (by omega)).1 hy with hy|hy
  ·exact hy
  ·have:=hb.2;rw [hy.1,ht] at this
   split at this <;> omega
section
variable {K:Nat}{g:Grammar}{w:ByteArray}(hK:200000≤K)(hb:Bd g)(hn:g.Names.length≤64)(hw:w.size≤32)(hs:NmOk g)
include hK hb hn hw hs
theorem t_holds {ns ms xs:List Int}(hl:ns.length=g.Names.length*wd w)(hr:(xs.length:Int)=total_ g*(wd w:Int)){r:Nat}(hrl:r<g.Rules.length)(hsx:SX g w ns xs)(hrx:RX g w ns xs r){i j:Nat}(hij:i≤j)(hj:j≤w.size) :
  ∃ b,J6 K (tb g w ms xs) (r:Int) (i:Int) (j:Int)=some b∧(b=true↔RuleS (NmS w ns) (wv w) (rd g.Rules (r:Int)) i j):=by
 have h8:=(hb.2 _ (rd_mem (xs:=g.Rules) (i:=(r:Int)) (by omega) (by omega))).1;have hG:(tb g w ms xs).G=g:=rfl;have hex:∀ c,c<(rd g.Rules (r:Int)).Conj.length→(0<rd xs (qi g w r c 0 i j)↔SeqS (NmS w ns) (wv w) (rd (rd g.Rules (r:Int)).Conj (c:Int)).Seq i j):=fun c hc=>by
  have hp:Pl g r c 0:=⟨hrl,hc,Nat.zero_le _⟩
  have e:Sfx g w ns r c 0 i j↔SeqS (NmS w ns) (wv w) (rd (rd g.Rules (r:Int)).Conj (c:Int)).Seq i j:=by unfold Sfx;rw [List.drop_zero];exact Iff.rfl
  rw [← e];exact ⟨hsx r c 0 hp i j hij hj,hrx c 0 hp i j hij hj⟩
 have hcj:RuleS (NmS w ns) (wv w) (rd g.Rules (r:Int)) i j↔∀ c,c<(rd g.Rules (r:Int)).Conj.length→((rd (rd g.Rules (r:Int)).Conj (c:Int)).Neg=true↔¬ SeqS (NmS w ns) (wv w) (rd (rd g.Rules (r:Int)).Conj (c:Int)).Seq i j):=by
  unfold RuleS;exact (all_rd (p:=fun c:Conjunct=>(c.Neg=true↔¬ SeqS (NmS w ns) (wv w) c.Seq i j))).symm
 rw [hcj];unfold J6;rw [hG,if_pos (by omega),if_pos (by omega)];rcases ask_all (n:=(rd g.Rules (r:Int)).Conj.length) (K:=K) (p:=fun c=>((rd (rd g.Rules (r:Int)).Conj (c:Int)).Neg=true↔¬ SeqS (NmS w ns) (wv w) (rd (rd g.Rules (r:Int)).Conj (c:Int)).Seq i j)) (L:=J6.l0 K (tb g w ms xs) (r:Int) (i:Int) (j:Int)) (by omega) (fun m c hc=>by
  have hp:Pl g r c 0:=⟨hrl,hc,Nat.zero_le _⟩
  have h1:=t_rest (K:=K) (ns:=ms) hb hw hr hp hij hj;have h1':P8 K (tb g w ms xs) ⟨(r:Int),(c:Int),0⟩ (i:Int) (j:Int)=some (decide (0<rd xs (qi g w r c 0 i j))):=h1;have h2:=hex c hc;simp only [J6.l0];rw [hG,if_pos (by omega),h1',Option.bind_some,if_pos (by omega),wr (a:=(c:Int)+1) (by omega) (by omega),← h2]
  by_cases e0:0<rd xs (qi g w r c 0 i j)
  ·rw [decide_eq_true e0]
   cases hneg:(rd (rd g.Rules (r:Int)).Conj (c:Int)).Neg with
   | true=>rw [if_pos rfl];exact .inr ⟨fun h=>h.1 rfl e0,rfl⟩
   | false=>rw [if_neg (by decide)];exact .inl ⟨⟨fun h=>(by cases h),fun h=>(h e0).elim⟩,rfl⟩
  ·rw [decide_eq_false e0]
   cases hneg:(rd (rd g.Rules (r:Int)).Conj (c:Int)).Neg with
   | true=>rw [if_neg (by decide)];exact .inl ⟨⟨fun _=>e0,fun _=>rfl⟩,rfl⟩
   | false=>rw [if_pos rfl];exact .inr ⟨fun h=>(by cases h.2 e0),rfl⟩) (fun m=>by simp only [J6.l0];rw [hG,if_neg (by omega)]) with ⟨h1,h2⟩|⟨h1,h2⟩
 ·rw [h1];exact ⟨true,rfl,fun _=>h2,fun _=>rfl⟩
 ·rw [h1];exact ⟨false,rfl,fun h=>(by cases h),fun h=>(h2 h).elim⟩
end
section
variable {K:Nat}{g:Grammar}{w:ByteArray}{lv:Int→Int}(hK:200000≤K)(hb:Bd g)(hn:g.Names.length≤64)(hw:w.size≤32)(hs:NmOk g)(hlv:LvS g.Names.length g.Rules lv)
structure Hd (g:Grammar)(w:ByteArray)(lv:Int→Int)(t:Int)(rs:List Int)(r:Nat)(s0 s:List Int×Bool):Prop where
 ti:TI g w lv t s.1 rs
 ex:Ext s0.1 s.1
 ne:∀ y:Int,0≤y→y<g.Names.length→y≠(rd g.Rules (r:Int)).Head→∀ a b,a≤b→b≤w.size→(NmS w s.1 y a b↔NmS w s0.1 y a b)
 ch:(s.2=s0.2∧s.1=s0.1)∨(s.2=true∧pz s.1<pz s0.1)
include hK hb hn hw hs hlv
theorem fh_l5 {t:Int}{rs:List Int}{r:Nat}(hr:r<g.Rules.length)(ht:lv (rd g.Rules (r:Int)).Head=t)(s0 s:List Int×Bool)(h0:TI g w lv t s0.1 rs)(hrx:RX g w s0.1 rs r)(h:Hd g w lv t rs r s0 s){a:Nat}(ha:a≤w.size)(n0 r0:List Int) :
  ∃ s',J0.l5 K (tb g w n0 r0) (r:Int) rs (a:Int) K (s.1,s.2,(a:Int))=some (s'.1,s'.2,((w.size+1:Nat):Int))∧Hd g w lv t rs r s0 s'∧Ext s.1 s'.1∧∀ b,a≤b→b≤w.size→RuleS (NmS w s0.1) (wv w) (rd g.Rules (r:Int)) a b→0<rd s'.1 (ni w (rd g.Rules (r:Int)).Head a b):=by
 have hm:=rd_mem (xs:=g.Rules) (i:=(r:Int)) (by omega) (by omega);obtain ⟨⟨r0',r1'⟩,_⟩:=hlv _ hm;have hW:(tb g w n0 r0).W=w:=rfl;have hG:(tb g w n0 r0).G=g:=rfl;have key:=rounds (σ:=List Int×Bool×Int) (ρ:=List Int×Bool×Int) (L:=J0.l5 K (tb g w n0 r0) (r:Int) rs (a:Int))
  (fun z=>∃ (s1:List Int×Bool) (b:Nat),z=(s1.1,s1.2,(b:Int))∧a≤b∧b≤w.size+1∧Hd g w lv t rs r s0 s1∧Ext s.1 s1.1∧∀ b',a≤b'→b'<b→RuleS (NmS w s0.1) (wv w) (rd g.Rules (r:Int)) a b'→0<rd s1.1 (ni w (rd g.Rules (r:Int)).Head a b'))
  (fun z=>w.size+1-z.2.2.toNat)
  (fun ρ=>∃ s':List Int×Bool,ρ=(s'.1,s'.2,((w.size+1:Nat):Int))∧Hd g w lv t rs r s0 s'∧Ext s.1 s'.1∧∀ b,a≤b→b≤w.size→RuleS (NmS w s0.1) (wv w) (rd g.Rules (r:Int)) a b→0<rd s'.1 (ni w (rd g.Rules (r:Int)).Head a b)) ?_ K (s.1,s.2,(a:Int)) ⟨s,a,rfl,Nat.le_refl _,by omega,h,Ext.refl _,fun b' _ _=>by omega⟩ (by simp;omega)
 ·obtain ⟨ρ,e1,s',rfl,h1,h2⟩:=key;exact ⟨s',e1,h1,h2⟩
 ·rintro z mm ⟨s1,b,rfl,k1,k2,k3,k4,k5⟩;simp only [J0.l5];rw [hW,hG]
  by_cases hq:b≤w.size
  ·have e4:IntKind.wrap .i64 ((b:Int)+1)=((b+1:Nat):Int):=by rw [wr (by omega) (by omega)];rfl
   have e0:(⟨⟨g.Start,g.Names,g.Rules⟩,w,(tb g w n0 r0).wide,s1.1,(tb g w n0 r0).conj,rs⟩:L0)=tb g w s1.1 rs:=rfl;have hl1:=k3.ti.nl;have h8:=ni_lt (g:=g) (w:=w) r0' r1' (show a≤w.size by omega) hq;have keep:∀ ys:List Int,Ext s1.1 ys→(RuleS (NmS w s0.1) (wv w) (rd g.Rules (r:Int)) a b→0<rd ys (ni w (rd g.Rules (r:Int)).Head a b))→∀ b',a≤b'→b'<b+1→RuleS (NmS w s0.1) (wv w) (rd g.Rules (r:Int)) a b'→0<rd ys (ni w (rd g.Rules (r:Int)).Head a b'):=fun ys he hd b' q1 q2 q3=>by
    by_cases e:b'=b
    ·subst e;exact hd q3
    ·have:=ni_lt (g:=g) (w:=w) r0' r1' (show a≤w.size by omega) (show b'≤w.size by omega);exact he.2 _ this.1 (by omega) (k5 b' q1 (by omega) q3)
   rw [if_pos (by omega),e0,t_has hn hw hl1 r0' r1' k1 hq,Option.bind_some,e4]
   by_cases c1:0<rd s1.1 (ni w (rd g.Rules (r:Int)).Head a b)
   ·rw [decide_eq_true c1,if_neg (by decide)];exact .inr ⟨_,⟨s1,b+1,rfl,by omega,by omega,k3,k4,keep s1.1 (Ext.refl _) fun _=>c1⟩,by simp;omega,rfl⟩
   ·rw [decide_eq_false c1,if_pos (by decide)];obtain ⟨p,t1,t2⟩:=t_holds (K:=K) (ms:=s1.1) hK hb hn hw hs h0.nl h0.rl hr h0.sx hrx k1 hq;rw [t1,Option.bind_some]
    by_cases c2:p=true
    ·have ei:IntKind.wrap .i64 (IntKind.wrap .i64 ((rd g.Rules (r:Int)).Head*(tb g w n0 r0).wide)+(sp w a b:Int))=ni w (rd g.Rules (r:Int)).Head a b:=ix_wrap r0' (by omega) (sp_lt (by omega) hq) (wd_le hw);rw [if_pos c2,t_span hw k1 hq,Option.bind_some,ei,if_pos h8.1,if_pos (by omega)];have hR:RuleS (NmS w s1.1) (wv w) (rd g.Rules (r:Int)) a b:=RuleS_mono hlv hm (fun y y1 y2 y3 a' b' _ h2 h3=>(k3.ne y y1 y2 (fun e=>by rw [e] at y3;omega) a' b' h2 (by omega)).symm) (fun y y1 y2 y3 a' b' _ h2 h3 hy=>by
      have:=ni_lt (g:=g) (w:=w) y1 y2 (show a'≤w.size by omega) (show b'≤w.size by omega);exact k3.ex.2 _ this.1 (by have:=h0.nl;omega) hy) (t2.1 c2)
     obtain ⟨p1,p2⟩:=k3.ti.put hlv hr ht k1 hq hR;have hpz:=pz_set s1.1 (ni w (rd g.Rules (r:Int)).Head a b).toNat (by omega) c1;have hex:=Ext.set (xs:=s1.1) h8.1 (show ni w (rd g.Rules (r:Int)).Head a b<s1.1.length by omega);refine .inr ⟨_,⟨(s1.1.set (ni w (rd g.Rules (r:Int)).Head a b).toNat 1,true),b+1,rfl,by omega,by omega,⟨p1,k3.ex.trans hex,fun y y1 y2 y3 a' b' h2 h3=>?_,.inr ⟨rfl,?_⟩⟩,k4.trans hex,keep _ hex fun _=>?_⟩,by simp;omega,rfl⟩
     ·rw [p2 y y1 y2 a' b' h2 h3,k3.ne y y1 y2 y3 a' b' h2 h3];exact ⟨fun z=>z.elim id fun z=>(y3 z.1).elim,.inl⟩
     ·rcases k3.ch with ⟨_,e⟩|⟨_,e⟩
      ·rw [e] at hpz ⊢;exact hpz
      ·exact Nat.lt_trans hpz e
     ·rw [rdi_set _ h8.1 (by omega) h8.1,if_pos rfl];decide
    ·rw [if_neg c2];exact .inr ⟨_,⟨s1,b+1,rfl,by omega,by omega,k3,k4,keep s1.1 (Ext.refl _) fun hR=>(c2 (t2.2 hR)).elim⟩,by simp;omega,rfl⟩
  ·rw [if_neg (by omega)];have:b=w.size+1:=by omega
   subst this;exact .inl ⟨_,rfl,s1,rfl,k3,k4,fun b' q1 q2=>k5 b' q1 (by omega)⟩
theorem fh_l4 {t:Int}{rs:List Int}{r:Nat}(hr:r<g.Rules.length)(ht:lv (rd g.Rules (r:Int)).Head=t)(s0:List Int×Bool)(h0:TI g w lv t s0.1 rs)(hrx:RX g w s0.1 rs r)(n0 r0:List Int) :
  ∃ s',J0.l4 K (tb g w n0 r0) (r:Int) rs K (s0.1,s0.2,0)=some (s'.1,s'.2,((w.size+1:Nat):Int))∧Hd g w lv t rs r s0 s'∧∀ a b,a≤b→b≤w.size→RuleS (NmS w s0.1) (wv w) (rd g.Rules (r:Int)) a b→0<rd s'.1 (ni w (rd g.Rules (r:Int)).Head a b):=by
 have hm:=rd_mem (xs:=g.Rules) (i:=(r:Int)) (by omega) (by omega);obtain ⟨⟨r0',r1'⟩,_⟩:=hlv _ hm;have hW:(tb g w n0 r0).W=w:=rfl;have key:=rounds (σ:=List Int×Bool×Int) (ρ:=List Int×Bool×Int) (L:=J0.l4 K (tb g w n0 r0) (r:Int) rs)
  (fun z=>∃ (s1:List Int×Bool) (a:Nat),z=(s1.1,s1.2,(a:Int))∧a≤w.size+1∧Hd g w lv t rs r s0 s1∧∀ a',a'<a→∀ b,a'≤b→b≤w.size→RuleS (NmS w s0.1) (wv w) (rd g.Rules (r:Int)) a' b→0<rd s1.1 (ni w (rd g.Rules (r:Int)).Head a' b))
  (fun z=>w.size+1-z.2.2.toNat)
  (fun ρ=>∃ s':List Int×Bool,ρ=(s'.1,s'.2,((w.size+1:Nat):Int))∧Hd g w lv t rs r s0 s'∧∀ a b,a≤b→b≤w.size→RuleS (NmS w s0.1) (wv w) (rd g.Rules (r:Int)) a b→0<rd s'.1 (ni w (rd g.Rules (r:Int)).Head a b)) ?_ K (s0.1,s0.2,0) ⟨s0,0,rfl,by omega,⟨h0,Ext.refl _,fun _ _ _ _ _ _ _ _=>Iff.rfl,.inl ⟨rfl,rfl⟩⟩,fun a' _=>by omega⟩ (by simp;omega)
 ·obtain ⟨ρ,e1,s',rfl,h1,h2⟩:=key;exact ⟨s',e1,h1,h2⟩
 ·rintro z mm ⟨s1,a,rfl,k2,k3,k4⟩;simp only [J0.l4];rw [hW]
  by_cases hq:a≤w.size
  ·have e4:IntKind.wrap .i64 ((a:Int)+1)=((a+1:Nat):Int):=by rw [wr (by omega) (by omega)];rfl
   obtain ⟨s2,g1,g2,g3,g4⟩:=fh_l5 hK hb hn hw hs hlv hr ht s0 s1 h0 hrx k3 hq n0 r0;rw [if_pos (by omega),g1,Option.bind_some,e4];refine .inr ⟨_,⟨s2,a+1,rfl,by omega,g2,fun a' q1 b q2 q3 q4=>?_⟩,by simp;omega,rfl⟩
   by_cases e:a'=a
   ·subst e;exact g4 b q2 q3 q4
   ·have:=ni_lt (g:=g) (w:=w) r0' r1' (show a'≤w.size by omega) q3;have:=k3.ti.nl;exact g3.2 _ (by omega) (by omega) (k4 a' (by omega) b q2 q3 q4)
  ·rw [if_neg (by omega)];have:a=w.size+1:=by omega
   subst this;exact .inl ⟨_,rfl,s1,rfl,k3,fun i j q1 q2=>k4 i (by omega) j q1 q2⟩
theorem fr_spec {t:Int}{ns rs:List Int}(h:TI g w lv t ns rs){r:Nat}(hr:r<g.Rules.length)(ht:lv (rd g.Rules (r:Int)).Head=t) :
  ∃ ch ns' rs',J0 K (tb g w ns rs) (r:Int)=some (ch,tb g w ns' rs')∧TI g w lv t ns' rs'∧((ch=false∧ns'=ns∧rs'=rs∧RX g w ns rs r∧∀ a b,a≤b→b≤w.size→RuleS (NmS w ns) (wv w) (rd g.Rules (r:Int)) a b→NmS w ns (rd g.Rules (r:Int)).Head a b)∨(ch=true∧pz ns'+pz rs'<pz ns+pz rs)):=by
 have hm:=rd_mem (xs:=g.Rules) (i:=(r:Int)) (by omega) (by omega);have h8:=(hb.2 _ hm).1;have hnl:=h.nl;obtain ⟨⟨rs',ch⟩,g1,g2,g3⟩:=fr_l0 hK hb hn hw hnl hs rs hr (rd g.Rules (r:Int)).Conj.length 0 K (rs,false) (by omega) (by omega) h.rl h.sx (fun c' h=>by omega);simp only at g1 g2 g3;have hT:TI g w lv t ns rs':=h.more g2.1 g2.2.1;obtain ⟨⟨ns',ch'⟩,k1,k2,k3⟩:=fh_l4 hK hb hn hw hs hlv hr ht (ns,ch) hT g3 ns rs;simp only at k1 k2 k3;have hG:(tb g w ns rs).G=g:=rfl;have hfin:J0 K (tb g w ns rs) (r:Int)=some (ch',tb g w ns' rs'):=by
  have g1':J0.l0 K (tb g w ns rs) (r:Int) K ((tb g w ns rs).rests,false,0)=some (rs',ch,((rd g.Rules (r:Int)).Conj.length:Int)):=g1;have k1':J0.l4 K (tb g w ns rs) (r:Int) rs' K ((tb g w ns rs).names,ch,0)=some (ns',ch',((w.size+1:Nat):Int)):=k1;unfold J0;rw [hG,if_pos (by omega),if_pos (by omega),g1',Option.bind_some];simp only;rw [k1'];rfl
 refine ⟨ch',ns',rs',hfin,k2.ti,?_⟩;rcases g2.2.2 with ⟨a,b⟩|⟨a,b⟩ <;> rcases k2.ch with ⟨c,d⟩|⟨c,d⟩ <;> simp only at a b c d
 ·subst b d;exact .inl ⟨c.trans a,rfl,rfl,g3,fun a b ab bl hR=>k3 a b ab bl hR⟩
 ·subst b;exact .inr ⟨c,by omega⟩
 ·subst d;exact .inr ⟨c.trans a,by omega⟩
 ·exact .inr ⟨c,by omega⟩
end
end RT
namespace RT
open S Go.Sort
set_option maxRecDepth 100000
abbrev St10:=(List Int)×(List Int)×Int×(List ByteArray)×(List Rule)×ByteArray×Int×(List (List Int))×Bool×Int
abbrev St9:=(List Int)×(List Int)×Int×(List ByteArray)×(List Rule)×ByteArray×Int×(List (List Int))×Bool
def s10 (g:Grammar)(w:ByteArray)(ns rs:List Int)(ch:Bool)(i:Int):St10:=(ns,rs,g.Start,g.Names,g.Rules,w,(wd w:Int),cjs g,ch,i)
def s9 (g:Grammar)(w:ByteArray)(ns rs:List Int)(ch:Bool):St9:=(ns,rs,g.Start,g.Names,g.Rules,w,(wd w:Int),cjs g,ch)
def Cl (g:Grammar)(w:ByteArray)(ns rs:List Int)(r:Nat):Prop:=RX g w ns rs r∧∀ a b,a≤b→b≤w.size→RuleS (NmS w ns) (wv w) (rd g.Rules (r:Int)) a b→NmS w ns (rd g.Rules (r:Int)).Head a b
section
variable {K:Nat}{g:Grammar}{w:ByteArray}{xs:List Int}(hK:200000000≤K)(hb:Bd g)(hn:g.Names.length≤64)(hw:w.size≤32)(hs:NmOk g)(hx:xs.length=g.Names.length)(hlv:LvS g.Names.length g.Rules (rd xs))
theorem f1_step (m:Nat)(ns rs:List Int)(ch:Bool)(i t:Int):M2.l1 K xs t (m+1) (s10 g w ns rs ch i)=if i<(g.Rules.length:Int) then if 0≤i then if 0≤(rd g.Rules i).Head then if (rd g.Rules i).Head<(xs.length:Int) then if (rd xs ((rd g.Rules i).Head))≠t then M2.l1 K xs t m (s10 g w ns rs ch (IntKind.wrap .i64 (i+1))) else (J0 K (tb g w ns rs) i).bind fun r_36=>if r_36.1=true then M2.l1 K xs t m (r_36.2.names,r_36.2.rests,r_36.2.G.Start,r_36.2.G.Names,r_36.2.G.Rules,r_36.2.W,r_36.2.wide,r_36.2.conj,true,IntKind.wrap .i64 (i+1)) else M2.l1 K xs t m (r_36.2.names,r_36.2.rests,r_36.2.G.Start,r_36.2.G.Names,r_36.2.G.Rules,r_36.2.W,r_36.2.wide,r_36.2.conj,ch,IntKind.wrap .i64 (i+1)) else none else none else none else some (s10 g w ns rs ch i):=rfl
include hK hb hn hw hs hx hlv
theorem f1_spec {t:Int}{n0 r0:List Int}(h0:TI g w (rd xs) t n0 r0) :
  ∃ ns rs ch,M2.l1 K xs t K (s10 g w n0 r0 false 0)=some (s10 g w ns rs ch (g.Rules.length:Int))∧TI g w (rd xs) t ns rs∧((ch=false∧∀ r:Nat,r<g.Rules.length→rd xs (rd g.Rules (r:Int)).Head=t→Cl g w ns rs r)∨(ch=true∧pz ns+pz rs<pz n0+pz r0)):=by
 have h256:=hb.1;have key:∀ (d u m:Nat) (ns rs:List Int) (ch:Bool),u+d=g.Rules.length→d<m→TI g w (rd xs) t ns rs→((ch=false∧ns=n0∧rs=r0∧∀ r:Nat,r<u→rd xs (rd g.Rules (r:Int)).Head=t→Cl g w n0 r0 r)∨(ch=true∧pz ns+pz rs<pz n0+pz r0)) →
   ∃ ns' rs' ch',M2.l1 K xs t m (s10 g w ns rs ch (u:Int))=some (s10 g w ns' rs' ch' (g.Rules.length:Int))∧TI g w (rd xs) t ns' rs'∧((ch'=false∧∀ r:Nat,r<g.Rules.length→rd xs (rd g.Rules (r:Int)).Head=t→Cl g w ns' rs' r)∨(ch'=true∧pz ns'+pz rs'<pz n0+pz r0)):=by
  intro d
  induction d with
  | zero =>
   intro u m ns rs ch hu hm hT hd;obtain ⟨m,rfl⟩:∃ q,m=q+1:=⟨m-1,by omega⟩
   have:u=g.Rules.length:=by omega
   subst this;rw [f1_step,if_neg (by omega)];refine ⟨ns,rs,ch,rfl,hT,?_⟩;rcases hd with ⟨a,rfl,rfl,b⟩|h
   ·exact .inl ⟨a,b⟩
   ·exact .inr h
  | succ d ih =>
   intro u m ns rs ch hu hm hT hd;obtain ⟨m,rfl⟩:∃ q,m=q+1:=⟨m-1,by omega⟩
   have hul:u<g.Rules.length:=by omega
   obtain ⟨⟨a0,a1⟩,_⟩:=hlv _ (rd_mem (xs:=g.Rules) (i:=(u:Int)) (by omega) (by omega));have e1:(u:Int)+1=((u+1:Nat):Int):=by omega
   rw [f1_step,if_pos (by omega),if_pos (by omega),if_pos a0,if_pos (by omega),wr (a:=(u:Int)+1) (by omega) (by omega),e1]
   by_cases c:rd xs (rd g.Rules (u:Int)).Head=t
   ·rw [if_neg (fun h=>h c)];obtain ⟨ch1,ns1,rs1,g1,g2,g3⟩:=fr_spec (K:=K) (by omega) hb hn hw hs hlv hT hul c;rw [g1,Option.bind_some];rcases g3 with ⟨rfl,rfl,rfl,g4,g5⟩|⟨rfl,g4⟩
    ·refine ih (u+1) m ns1 rs1 ch (by omega) (by omega) g2 ?_;rcases hd with ⟨a,rfl,rfl,b⟩|h
     ·refine .inl ⟨a,rfl,rfl,fun r hr hrt=>?_⟩;rcases Nat.lt_succ_iff_lt_or_eq.1 hr with hr|rfl
      ·exact b r hr hrt
      ·exact ⟨g4,g5⟩
     ·exact .inr h
    ·refine ih (u+1) m ns1 rs1 true (by omega) (by omega) g2 (.inr ⟨rfl,?_⟩);rcases hd with ⟨a,rfl,rfl,b⟩|h
     ·exact g4
     ·exact Nat.lt_trans g4 h.2
   ·rw [if_pos c];refine ih (u+1) m ns rs ch (by omega) (by omega) hT ?_;rcases hd with ⟨a,rfl,rfl,b⟩|h
    ·refine .inl ⟨a,rfl,rfl,fun r hr hrt=>?_⟩;rcases Nat.lt_succ_iff_lt_or_eq.1 hr with hr|rfl
     ·exact b r hr hrt
     ·exact absurd hrt c
    ·exact .inr h
 exact key g.Rules.length 0 K n0 r0 false (by omega) (by omega) h0 (.inl ⟨rfl,rfl,rfl,fun r hr=>by omega⟩)
omit hK hb hn hw hs hx hlv in
theorem f0_step (m:Nat)(ns rs:List Int)(ch:Bool)(t:Int):M2.l0 K xs t (m+1) (s9 g w ns rs ch)=if ch=true then (M2.l1 K xs t K (s10 g w ns rs false 0)).bind fun (xs_20,xs_22,c_23,c_24,c_25,c_26,c_27,c_28,changed_29,i_30)=>M2.l0 K xs t m (xs_20,xs_22,c_23,c_24,c_25,c_26,c_27,c_28,changed_29) else some (s9 g w ns rs ch):=rfl
theorem f0_spec {t:Int}:∀ (d m:Nat) (ns rs:List Int),pz ns+pz rs≤d→d+1<m→TI g w (rd xs) t ns rs→∃ ns' rs',M2.l0 K xs t m (s9 g w ns rs true)=some (s9 g w ns' rs' false)∧TI g w (rd xs) (t+1) ns' rs'
 | d,m,ns,rs,hd,hm,hT=>by
  obtain ⟨m,rfl⟩:=sSx hm;obtain ⟨ns1,rs1,ch,g1,g2,g3⟩:=f1_spec hK hb hn hw hs hx hlv hT;rw [f0_step,if_pos rfl,g1,Option.bind_some];rcases g3 with ⟨rfl,g4⟩|⟨rfl,g4⟩
  ·obtain ⟨m,rfl⟩:∃ q,m=q+1:=⟨m-1,by omega⟩
   refine ⟨ns1,rs1,?_,g2.nl,g2.rl,⟨fun x a b i j h1 h2 h=>by have:=g2.ri.a x a b i j h1 h2 h;omega,g2.ri.b,fun r hr ht i j h1 h2 hh=>?_,g2.ri.d⟩,g2.sx,fun r hr ht=>?_⟩
   ·show M2.l0 K xs t (m+1) (s9 g w ns1 rs1 false)=_;rw [f0_step,if_neg (by decide)]
   ·by_cases c:rd xs r.Head=t
    ·obtain ⟨i',hi,rfl⟩:=List.getElem_of_mem hr;have e:rd g.Rules (i':Int)=g.Rules[i']:=by rw [rd_nat,List.getD_eq_getElem?_getD,List.getElem?_eq_getElem hi];rfl
     have h5:=(g4 i' hi (by rw [e];exact c)).2 i j h1 h2;rw [e] at h5;exact h5 hh
    ·exact g2.ri.c r hr (by omega) i j h1 h2 hh
   ·by_cases c:rd xs (rd g.Rules (r:Int)).Head=t
    ·exact (g4 r hr c).1
    ·exact g2.rx r hr (by omega)
  ·cases d with
   | zero=>omega
   | succ d =>
    exact f0_spec d m ns1 rs1 (by omega) (by omega) g2
theorem lens {ns rs:List Int}(h1:ns.length=g.Names.length*wd w)(h2:(rs.length:Int)=total_ g*(wd w:Int)):ns.length≤70000∧rs.length≤145000000:=by
 have h3:=total_le hb;have h4:=wd_le hw;have h5:g.Names.length*wd w≤64*1089:=Nat.mul_le_mul hn h4;have h6:total_ g*(wd w:Int)≤133120*1089:=Int.mul_le_mul h3.2 (by omega) (by omega) (by decide);omega
theorem fill_spec {t:Int}{ns rs:List Int}(hT:TI g w (rd xs) t ns rs):∃ ns' rs',M2 K (tb g w ns rs) xs t=some (tb g w ns' rs')∧TI g w (rd xs) (t+1) ns' rs':=by
 have h1:=pz_le ns;have h2:=pz_le rs;have h3:=lens hK hb hn hw hs hx hlv hT.nl hT.rl;obtain ⟨ns',rs',g1,g2⟩:=f0_spec hK hb hn hw hs hx hlv (pz ns+pz rs) K ns rs (Nat.le_refl _) (by omega) hT;refine ⟨ns',rs',?_,g2⟩;unfold M2;have g1':M2.l0 K xs t K ((tb g w ns rs).names,(tb g w ns rs).rests,(tb g w ns rs).G.Start,(tb g w ns rs).G.Names,(tb g w ns rs).G.Rules,(tb g w ns rs).W,(tb g w ns rs).wide,(tb g w ns rs).conj,true)=some (s9 g w ns' rs' false):=g1;rw [g1'];rfl
end
end RT
namespace RT
open S Go.Sort
set_option maxRecDepth 100000
def rankB (g:Grammar)(w:ByteArray)(qs:List Int)(r i j:Nat):Prop:=∀ c:Nat,c<(rd g.Rules (r:Int)).Conj.length→(rd (rd g.Rules (r:Int)).Conj (c:Int)).Neg=false→rd qs (qi g w r c 0 i j)≠0
theorem qi0 (g:Grammar)(w:ByteArray)(r c i j:Nat):qi g w r c 0 i j=off g r c*(wd w:Int)+(sp w i j:Int):=by unfold qi;rw [Int.natCast_zero,Int.add_zero]
structure Ap (G:Int→Prop)(n:Nat)(a a':List Int)(C:Prop):Prop where
 g:∀ x ∈ a',G x
 l:a'.length≤a.length+n
 e:a'=[]→a=[]∧C
theorem Ap.refl {G:Int→Prop}{a:List Int}(h:∀ x ∈ a,G x):Ap G 0 a a True:=⟨h,Nat.le_refl _,fun e=>⟨e,trivial⟩⟩
theorem Ap.trans {G:Int→Prop}{n m:Nat}{a b c:List Int}{C D:Prop}(h1:Ap G n a b C)(h2:Ap G m b c D):Ap G (n+m) a c (C∧D):=⟨h2.g,by have:=h1.l;have:=h2.l;omega,fun e=>⟨(h1.e (h2.e e).1).1,(h1.e (h2.e e).1).2,(h2.e e).2⟩⟩
theorem Ap.mono {G:Int→Prop}{n m:Nat}{a b:List Int}{C D:Prop}(h:Ap G n a b C)(hn:n≤m)(hc:C→D):Ap G m a b D:=⟨h.g,by have:=h.l;omega,fun e=>⟨(h.e e).1,hc (h.e e).2⟩⟩
theorem Ap.snoc {G:Int→Prop}{a:List Int}{x:Int}{C:Prop}(h:∀ y ∈ a,G y)(hx:G x):Ap G 1 a (a++[x]) C:=⟨fun y hy=>by
  rcases List.mem_append.1 hy with hy|hy
  ·exact h y hy
  ·rw [List.mem_singleton] at hy;subst hy;exact hx,by simp,fun e=>by simp at e⟩
section
variable {K:Nat}{g:Grammar}{w:ByteArray}{ns rs ms qs:List Int}(hK:200000≤K)(hb:Bd g)(hn:g.Names.length≤64)(hw:w.size≤32)(hs:NmOk g)(hnl:ns.length=g.Names.length*wd w)(hrl:(rs.length:Int)=total_ g*(wd w:Int))(hml:ms.length=g.Names.length*wd w)(hql:(qs.length:Int)=total_ g*(wd w:Int))
include hK hb hn hw hs hql in
theorem t_ranked {r:Nat}(hr:r<g.Rules.length){i j:Nat}(hij:i≤j)(hj:j≤w.size):∃ b,Q6 K (tb g w ns rs) qs (r:Int) (i:Int) (j:Int)=some b∧(b=true↔rankB g w qs r i j):=by
 have h8:=(hb.2 _ (rd_mem (xs:=g.Rules) (i:=(r:Int)) (by omega) (by omega))).1;have h4:=cjs_len g;have h5:=cjs_row hr;have h7:=total_le hb;have hG:(tb g w ns rs).G=g:=rfl;have hc:(tb g w ns rs).conj=cjs g:=rfl;unfold Q6;rw [hG,if_pos (by omega),if_pos (by omega)];rcases ask_all (n:=(rd g.Rules (r:Int)).Conj.length) (K:=K) (p:=fun c=>(rd (rd g.Rules (r:Int)).Conj (c:Int)).Neg=false→rd qs (qi g w r c 0 i j)≠0) (L:=Q6.l0 K (tb g w ns rs) qs (r:Int) (i:Int) (j:Int)) (by omega) (fun m c hcl=>by
  have hp:Pl g r c 0:=⟨hr,hcl,Nat.zero_le _⟩
  have h6:=off_in hp;have h9:=qi_lt (w:=w) hp (show i≤w.size by omega) hj;have ei:IntKind.wrap .i64 (IntKind.wrap .i64 (off g r c*(tb g w ns rs).wide)+(sp w i j:Int))=qi g w r c 0 i j:=by
   rw [qi0];exact ix_wrap (by omega) (by omega) (sp_lt (by omega) hj) (wd_le hw)
  have eo:rd (rd (cjs g) (r:Int)) (c:Int)=off g r c:=rfl;simp only [Q6.l0];rw [hG,hc,if_pos (by omega),if_pos (by omega),wr (a:=(c:Int)+1) (by omega) (by omega)]
  cases hneg:(rd (rd g.Rules (r:Int)).Conj (c:Int)).Neg with
  | true=>rw [if_neg (by decide)];exact .inl ⟨fun h=>Bool.noConfusion h,rfl⟩
  | false =>
   rw [if_pos (show (!false)=true from rfl),if_pos (by omega),if_pos (by omega),t_span hw hij hj,Option.bind_some,eo,ei,if_pos h9.1,if_pos (by omega)]
   by_cases e:rd qs (qi g w r c 0 i j)=0
   ·rw [if_pos e];exact .inr ⟨fun h=>h rfl e,rfl⟩
   ·rw [if_neg e];exact .inl ⟨fun _=>e,rfl⟩) (fun m=>by simp only [Q6.l0];rw [hG,if_neg (by omega)]) with ⟨h1,h2⟩|⟨h1,h2⟩
 ·rw [h1];exact ⟨true,rfl,fun _=>h2,fun _=>rfl⟩
 ·rw [h1];exact ⟨false,rfl,fun h=>Bool.noConfusion h,fun h=>absurd h h2⟩
include hK hb hn hw hs hml hql in
theorem t_split {r c k:Nat}(h:Pl g r c k){i j:Nat}(hij:i≤j)(hj:j≤w.size):∃ b,W6 K (tb g w ns rs) ms qs ⟨(r:Int),(c:Int),(k:Int)⟩ (i:Int) (j:Int)=some b∧(b=true↔NextP g w ms qs r c k i j):=by
 have h1:=h.1;have h2:=h.2.1;have h3:k≤(seqA g r c).length:=h.2.2;have h6:=off_in h;have h7:=total_le hb;unfold W6;rw [t_symbol h,Option.bind_some,t_place hb h,Option.bind_some]
 by_cases e:k=(seqA g r c).length
 ·rw [if_pos e,if_pos (by rfl)];refine ⟨_,rfl,?_⟩;rw [decide_eq_true_eq];constructor
  ·intro hh;exact .inl ⟨e,by omega⟩
  ·rintro (⟨_,hh⟩|⟨hh,_⟩) <;> omega
 ·have hlt:k<(seqA g r c).length:=by omega
  rw [if_neg e];have hm:=hs _ (rd_mem (xs:=g.Rules) (i:=(r:Int)) (by omega) (by omega)) _ (rd_mem (xs:=(rd g.Rules (r:Int)).Conj) (i:=(c:Int)) (by omega) (by omega)) _ (rd_mem (xs:=seqA g r c) (i:=(k:Int)) (by omega) (by omega));have hp:Pl g r c (k+1):=⟨h1,h2,hlt⟩
  have h6':=off_in hp;have hnp:NextP g w ms qs r c k i j↔∃ q,i≤q∧q≤j∧SymS (NmS w ms) (wv w) (rd (seqA g r c) (k:Int)) i q∧0<rd qs (qi g w r c (k+1) q j):=by
   unfold NextP;exact ⟨fun hh=>hh.elim (fun hh=>(e hh.1).elim) fun hh=>hh.2,fun hh=>.inr ⟨hlt,hh⟩⟩
  have ej:∀ q,q≤j→IntKind.wrap .i64 (IntKind.wrap .i64 ((IntKind.wrap .i64 (off g r c+(k:Int)+1))*(tb g w ns rs).wide)+(sp w q j:Int))=qi g w r c (k+1) q j:=fun q hq=>by
   have e1:IntKind.wrap .i64 (off g r c+(k:Int)+1)=off g r c+((k+1:Nat):Int):=by rw [wr (by omega) (by omega)];omega
   rw [e1];exact ix_wrap (by omega) (by omega) (sp_lt (by omega) hj) (wd_le hw)
  rw [hnp];generalize rd (seqA g r c) (k:Int)=x at hm;simp only;rw [if_neg (by decide)]
  by_cases c0:x.Name<0
  ·obtain ⟨b,hb1,hb2⟩:=t_byte (K:=K) (g:=g) (ns:=ns) (rs:=rs) hw x (i:=i) hj;have ex:(⟨x.Name,x.Lo,x.Hi⟩:Symbol)=x:=rfl;rw [if_pos c0,ex,hb1,Option.bind_some]
   by_cases cb:b=true
   ·obtain ⟨g1,g2,g3⟩:=hb2.1 cb;have e3:IntKind.wrap .i64 ((i:Int)+1)=((i+1:Nat):Int):=by rw [wr (by omega) (by omega)];rfl
    have h9:=qi_lt (w:=w) hp (show i+1≤w.size by omega) hj;rw [if_pos cb,e3,t_span hw (show i+1≤j by omega) hj,Option.bind_some,ej (i+1) (by omega),if_pos h9.1,if_pos (by omega)];refine ⟨_,rfl,?_⟩;rw [decide_eq_true_eq];constructor
    ·intro hh;exact ⟨i+1,by omega,by omega,(sym_by c0).2 ⟨rfl,g2,g3⟩,hh⟩
    ·rintro ⟨q,q1,q2,q3,q4⟩;have:=((sym_by c0).1 q3).1;subst this;exact q4
   ·rw [if_neg cb];refine ⟨false,rfl,fun hh=>(by cases hh),?_⟩;rintro ⟨q,q1,q2,q3,q4⟩;obtain ⟨f1,f2,f3⟩:=(sym_by c0).1 q3;exact (cb (hb2.2 ⟨by omega,f2,f3⟩)).elim
  ·have hx:=hm (by omega);rw [if_neg c0];have key:=rounds (σ:=Int) (ρ:=Int ⊕ Bool) (L:=W6.l0 K (tb g w ns rs) ms qs (i:Int) (j:Int) (x,true) (off g r c+(k:Int)))
    (fun z=>∃ q:Nat,z=(q:Int)∧i≤q∧q≤j+1∧∀ p,i≤p→p<q→¬ (NmS w ms x.Name i p∧0<rd qs (qi g w r c (k+1) p j)))
    (fun z=>j+1-z.toNat)
    (fun ρ=>(ρ = .inr true∧∃ q,i≤q∧q≤j∧NmS w ms x.Name i q∧0<rd qs (qi g w r c (k+1) q j))∨(∃ q,ρ = .inl q∧∀ p,i≤p→p≤j→¬ (NmS w ms x.Name i p∧0<rd qs (qi g w r c (k+1) p j)))) ?_ K (i:Int) ⟨i,rfl,Nat.le_refl _,by omega,fun p _ _=>by omega⟩ (by simp;omega)
   ·obtain ⟨ρ,e1,hρ⟩:=key;rw [e1];rcases hρ with ⟨rfl,q,q1,q2,q3,q4⟩|⟨q,rfl,hq⟩
    ·exact ⟨true,rfl,fun _=>⟨q,q1,q2,(sym_nm (by omega)).2 q3,q4⟩,fun _=>rfl⟩
    ·exact ⟨false,rfl,fun hh=>(by cases hh),fun ⟨q,q1,q2,q3,q4⟩=>(hq q q1 q2 ⟨(sym_nm (by omega)).1 q3,q4⟩).elim⟩
   ·rintro z mm ⟨q,rfl,k1,k2,k3⟩;simp only [W6.l0]
    by_cases hq:q≤j
    ·have e4:IntKind.wrap .i64 ((q:Int)+1)=((q+1:Nat):Int):=by rw [wr (by omega) (by omega)];rfl
     have h8:=ni_lt (g:=g) (w:=w) (show 0≤x.Name by omega) hx (show i≤w.size by omega) (show q≤w.size by omega);have h9:=qi_lt (w:=w) hp (show q≤w.size by omega) hj;have ei:IntKind.wrap .i64 (IntKind.wrap .i64 (x.Name*(tb g w ns rs).wide)+(sp w i q:Int))=ni w x.Name i q:=ix_wrap (by omega) (by omega) (sp_lt (by omega) (by omega)) (wd_le hw);rw [if_pos (by omega),t_span hw k1 (by omega),Option.bind_some,ei,if_pos h8.1,if_pos (by omega),e4]
     by_cases c1:0<rd ms (ni w x.Name i q)
     ·rw [if_pos c1,t_span hw hq hj,Option.bind_some,ej q hq,if_pos h9.1,if_pos (by omega)]
      by_cases c2:0<rd qs (qi g w r c (k+1) q j)
      ·rw [if_pos c2];exact .inl ⟨_,rfl,.inl ⟨rfl,q,k1,hq,c1,c2⟩⟩
      ·rw [if_neg c2];refine .inr ⟨_,⟨q+1,rfl,by omega,by omega,fun p p1 p2=>?_⟩,by simp;omega,rfl⟩
       by_cases ep:p=q
       ·subst ep;exact fun hh=>c2 hh.2
       ·exact k3 p p1 (by omega)
     ·rw [if_neg c1];refine .inr ⟨_,⟨q+1,rfl,by omega,by omega,fun p p1 p2=>?_⟩,by simp;omega,rfl⟩
      by_cases ep:p=q
      ·subst ep;exact fun hh=>c1 hh.1
      ·exact k3 p p1 (by omega)
    ·rw [if_neg (by omega)];exact .inl ⟨_,rfl,.inr ⟨_,rfl,fun p p1 p2=>k3 p p1 (by omega)⟩⟩
def CandA (g:Grammar)(w:ByteArray)(ns ms qs:List Int)(r i j:Nat):Prop:=0<rd ns (ni w (rd g.Rules (r:Int)).Head i j)∧rd ms (ni w (rd g.Rules (r:Int)).Head i j)=0∧RuleS (NmS w ns) (wv w) (rd g.Rules (r:Int)) i j∧rankB g w qs r i j
def CandB (g:Grammar)(w:ByteArray)(rs ms qs:List Int)(r c k i j:Nat):Prop:=0<rd rs (qi g w r c k i j)∧rd qs (qi g w r c k i j)=0∧NextP g w ms qs r c k i j
def GdA (g:Grammar)(w:ByteArray)(ns ms:List Int)(x:Int):Prop:=(0≤x∧x<((g.Names.length*wd w:Nat):Int))∧0<rd ns x∧rd ms x=0
def GdB (g:Grammar)(w:ByteArray)(rs qs:List Int)(x:Int):Prop:=(0≤x∧x<total_ g*(wd w:Int))∧0<rd rs x∧rd qs x=0
include hK hb hn hw hs hnl hrl hml hql
theorem ro_l2 {lv:Int→Int}(hlv:LvS g.Names.length g.Rules lv)(hsx:SX g w ns rs){r:Nat}(hr:r<g.Rules.length)(hrx:RX g w ns rs r)(a:List Int)(hal:a.length≤1000000000)(hga:∀ x ∈ a,GdA g w ns ms x){i:Nat}(hi:i≤w.size) :
  ∃ a',G0.l2 K (tb g w ns rs) ms qs (r:Int) (i:Int) K (a,(i:Int))=some (a',((w.size+1:Nat):Int))∧Ap (GdA g w ns ms) 33 a a' (∀ j,i≤j→j≤w.size→¬ CandA g w ns ms qs r i j):=by
 obtain ⟨⟨r0,r1⟩,_⟩:=hlv _ (rd_mem (xs:=g.Rules) (i:=(r:Int)) (by omega) (by omega));have hG:(tb g w ns rs).G=g:=rfl;have hW:(tb g w ns rs).W=w:=rfl;have hnm:(tb g w ns rs).names=ns:=rfl;have key:=rounds (σ:=List Int×Int) (ρ:=List Int×Int) (L:=G0.l2 K (tb g w ns rs) ms qs (r:Int) (i:Int))
  (fun z=>∃ (a1:List Int) (j:Nat),z=(a1,(j:Int))∧i≤j∧j≤w.size+1∧Ap (GdA g w ns ms) (j-i) a a1 (∀ j',i≤j'→j'<j→¬ CandA g w ns ms qs r i j'))
  (fun z=>w.size+1-z.2.toNat)
  (fun ρ=>∃ a',ρ=(a',((w.size+1:Nat):Int))∧Ap (GdA g w ns ms) 33 a a' (∀ j,i≤j→j≤w.size→¬ CandA g w ns ms qs r i j)) ?_ K (a,(i:Int)) ⟨a,i,rfl,Nat.le_refl _,by omega,(Ap.refl hga).mono (Nat.zero_le _) fun _ j' _ _=>by omega⟩ (by simp;omega)
 ·obtain ⟨ρ,e1,a',rfl,h1⟩:=key;exact ⟨a',e1,h1⟩
 ·rintro z mm ⟨a1,j,rfl,k1,k2,k3⟩;simp only [G0.l2];rw [hG,hW,hnm]
  by_cases hq:j≤w.size
  ·have e4:IntKind.wrap .i64 ((j:Int)+1)=((j+1:Nat):Int):=by rw [wr (by omega) (by omega)];rfl
   have h8:=ni_lt (g:=g) (w:=w) r0 r1 hi hq;have ei:IntKind.wrap .i64 (IntKind.wrap .i64 ((rd g.Rules (r:Int)).Head*(tb g w ns rs).wide)+(sp w i j:Int))=ni w (rd g.Rules (r:Int)).Head i j:=ix_wrap r0 (by omega) (sp_lt hi hq) (wd_le hw);have kl:=k3.l;have nx:∀ a2,Ap (GdA g w ns ms) 1 a1 a2 (¬ CandA g w ns ms qs r i j)→Ap (GdA g w ns ms) (j+1-i) a a2 (∀ j',i≤j'→j'<j+1→¬ CandA g w ns ms qs r i j'):=fun a2 h=>(k3.trans h).mono (by omega) fun ⟨c1,c2⟩ j' q1 q2=>by
    by_cases e:j'=j
    ·subst e;exact c2
    ·exact c1 j' q1 (by omega)
   have no:¬ CandA g w ns ms qs r i j→Ap (GdA g w ns ms) 1 a1 a1 (¬ CandA g w ns ms qs r i j):=fun h=>(Ap.refl k3.g).mono (Nat.zero_le _) fun _=>h
   rw [if_pos (by omega),t_span hw k1 hq,Option.bind_some,ei,if_pos h8.1,if_pos (by omega),e4]
   by_cases c1:0<rd ns (ni w (rd g.Rules (r:Int)).Head i j)
   ·rw [if_pos c1,if_pos (by omega)]
    by_cases c2:rd ms (ni w (rd g.Rules (r:Int)).Head i j)=0
    ·obtain ⟨p,t1,t2⟩:=t_holds (K:=K) (ms:=ns) hK hb hn hw hs hnl hrl hr hsx hrx k1 hq;rw [if_pos c2,t1,Option.bind_some]
     by_cases c3:p=true
     ·obtain ⟨b,u1,u2⟩:=t_ranked (ns:=ns) (rs:=rs) hK hb hn hw hs hql hr k1 hq;rw [if_pos c3,u1,Option.bind_some]
      by_cases c4:b=true
      ·rw [if_pos c4,if_pos (by simp only [List.length_singleton];omega)];exact .inr ⟨_,⟨_,j+1,rfl,by omega,by omega,nx _ (Ap.snoc k3.g ⟨h8,c1,c2⟩)⟩,by simp;omega,rfl⟩
      ·rw [if_neg c4];exact .inr ⟨_,⟨a1,j+1,rfl,by omega,by omega,nx _ (no fun h=>c4 (u2.2 h.2.2.2))⟩,by simp;omega,rfl⟩
     ·rw [if_neg c3];exact .inr ⟨_,⟨a1,j+1,rfl,by omega,by omega,nx _ (no fun h=>c3 (t2.2 h.2.2.1))⟩,by simp;omega,rfl⟩
    ·rw [if_neg c2];exact .inr ⟨_,⟨a1,j+1,rfl,by omega,by omega,nx _ (no fun h=>c2 h.2.1)⟩,by simp;omega,rfl⟩
   ·rw [if_neg c1];exact .inr ⟨_,⟨a1,j+1,rfl,by omega,by omega,nx _ (no fun h=>c1 h.1)⟩,by simp;omega,rfl⟩
  ·rw [if_neg (by omega)];have:j=w.size+1:=by omega
   subst this;exact .inl ⟨_,rfl,a1,rfl,k3.mono (by omega) fun h j' q1 q2=>h j' q1 (by omega)⟩
theorem ro_l1 {lv:Int→Int}(hlv:LvS g.Names.length g.Rules lv)(hsx:SX g w ns rs){r:Nat}(hr:r<g.Rules.length)(hrx:RX g w ns rs r)(a:List Int)(hal:a.length≤900000000)(hga:∀ x ∈ a,GdA g w ns ms x) :
  ∃ a',G0.l1 K (tb g w ns rs) ms qs (r:Int) K (a,0)=some (a',((w.size+1:Nat):Int))∧Ap (GdA g w ns ms) 1089 a a' (∀ i j,i≤j→j≤w.size→¬ CandA g w ns ms qs r i j):=by
 have hW:(tb g w ns rs).W=w:=rfl;have key:=rounds (σ:=List Int×Int) (ρ:=List Int×Int) (L:=G0.l1 K (tb g w ns rs) ms qs (r:Int))
  (fun z=>∃ (a1:List Int) (i:Nat),z=(a1,(i:Int))∧i≤w.size+1∧Ap (GdA g w ns ms) (33*i) a a1 (∀ i',i'<i→∀ j,i'≤j→j≤w.size→¬ CandA g w ns ms qs r i' j))
  (fun z=>w.size+1-z.2.toNat)
  (fun ρ=>∃ a',ρ=(a',((w.size+1:Nat):Int))∧Ap (GdA g w ns ms) 1089 a a' (∀ i j,i≤j→j≤w.size→¬ CandA g w ns ms qs r i j)) ?_ K (a,0) ⟨a,0,rfl,by omega,(Ap.refl hga).mono (Nat.zero_le _) fun _ i' _=>by omega⟩ (by simp;omega)
 ·obtain ⟨ρ,e1,a',rfl,h1⟩:=key;exact ⟨a',e1,h1⟩
 ·rintro z mm ⟨a1,i,rfl,k2,k3⟩;simp only [G0.l1];rw [hW]
  by_cases hq:i≤w.size
  ·have e4:IntKind.wrap .i64 ((i:Int)+1)=((i+1:Nat):Int):=by rw [wr (by omega) (by omega)];rfl
   have kl:=k3.l;obtain ⟨a2,g1,g2⟩:=ro_l2 hK hb hn hw hs hnl hrl hml hql hlv hsx hr hrx a1 (by omega) k3.g hq;rw [if_pos (by omega),g1,Option.bind_some,e4];refine .inr ⟨_,⟨a2,i+1,rfl,by omega,(k3.trans g2).mono (by omega) fun ⟨c1,c2⟩ i' q1=>?_⟩,by simp;omega,rfl⟩
   by_cases e:i'=i
   ·subst e;exact c2
   ·exact c1 i' (by omega)
  ·rw [if_neg (by omega)];have:i=w.size+1:=by omega
   subst this;exact .inl ⟨_,rfl,a1,rfl,k3.mono (by omega) fun h i' j q1 q2=>h i' (by omega) j q1 q2⟩
theorem ro_l6 {r c k:Nat}(h:Pl g r c k)(a:List Int)(hal:a.length≤1000000000)(hga:∀ x ∈ a,GdB g w rs qs x){i:Nat}(hi:i≤w.size) :
  ∃ a',G0.l6 K (tb g w ns rs) ms qs (r:Int) (c:Int) (k:Int) (i:Int) K (a,(i:Int))=some (a',((w.size+1:Nat):Int))∧Ap (GdB g w rs qs) 33 a a' (∀ j,i≤j→j≤w.size→¬ CandB g w rs ms qs r c k i j):=by
 have h6:=off_in h;have h7:=total_le hb;have hW:(tb g w ns rs).W=w:=rfl;have hrt:(tb g w ns rs).rests=rs:=rfl;have key:=rounds (σ:=List Int×Int) (ρ:=List Int×Int) (L:=G0.l6 K (tb g w ns rs) ms qs (r:Int) (c:Int) (k:Int) (i:Int))
  (fun z=>∃ (a1:List Int) (j:Nat),z=(a1,(j:Int))∧i≤j∧j≤w.size+1∧Ap (GdB g w rs qs) (j-i) a a1 (∀ j',i≤j'→j'<j→¬ CandB g w rs ms qs r c k i j'))
  (fun z=>w.size+1-z.2.toNat)
  (fun ρ=>∃ a',ρ=(a',((w.size+1:Nat):Int))∧Ap (GdB g w rs qs) 33 a a' (∀ j,i≤j→j≤w.size→¬ CandB g w rs ms qs r c k i j)) ?_ K (a,(i:Int)) ⟨a,i,rfl,Nat.le_refl _,by omega,(Ap.refl hga).mono (Nat.zero_le _) fun _ j' _ _=>by omega⟩ (by simp;omega)
 ·obtain ⟨ρ,e1,a',rfl,h1⟩:=key;exact ⟨a',e1,h1⟩
 ·rintro z mm ⟨a1,j,rfl,k1,k2,k3⟩;simp only [G0.l6];rw [hW,hrt]
  by_cases hq:j≤w.size
  ·have e4:IntKind.wrap .i64 ((j:Int)+1)=((j+1:Nat):Int):=by rw [wr (by omega) (by omega)];rfl
   have h8:=qi_lt (w:=w) h hi hq;have ei:IntKind.wrap .i64 (IntKind.wrap .i64 ((off g r c+(k:Int))*(tb g w ns rs).wide)+(sp w i j:Int))=qi g w r c k i j:=ix_wrap (by omega) (by omega) (sp_lt hi hq) (wd_le hw);have kl:=k3.l;have nx:∀ a2,Ap (GdB g w rs qs) 1 a1 a2 (¬ CandB g w rs ms qs r c k i j)→Ap (GdB g w rs qs) (j+1-i) a a2 (∀ j',i≤j'→j'<j+1→¬ CandB g w rs ms qs r c k i j'):=fun a2 h=>(k3.trans h).mono (by omega) fun ⟨c1,c2⟩ j' q1 q2=>by
    by_cases e:j'=j
    ·subst e;exact c2
    ·exact c1 j' q1 (by omega)
   have no:¬ CandB g w rs ms qs r c k i j→Ap (GdB g w rs qs) 1 a1 a1 (¬ CandB g w rs ms qs r c k i j):=fun h=>(Ap.refl k3.g).mono (Nat.zero_le _) fun _=>h
   rw [if_pos (by omega),t_place hb h,Option.bind_some,t_span hw k1 hq,Option.bind_some,ei,if_pos h8.1,if_pos (by omega),e4]
   by_cases c1:0<rd rs (qi g w r c k i j)
   ·rw [if_pos c1,if_pos (by omega)]
    by_cases c2:rd qs (qi g w r c k i j)=0
    ·obtain ⟨p,t1,t2⟩:=t_split (ns:=ns) (rs:=rs) hK hb hn hw hs hml hql h k1 hq;rw [if_pos c2,t1,Option.bind_some]
     by_cases c3:p=true
     ·rw [if_pos c3,if_pos (by simp only [List.length_singleton];omega)];exact .inr ⟨_,⟨_,j+1,rfl,by omega,by omega,nx _ (Ap.snoc k3.g ⟨h8,c1,c2⟩)⟩,by simp;omega,rfl⟩
     ·rw [if_neg c3];exact .inr ⟨_,⟨a1,j+1,rfl,by omega,by omega,nx _ (no fun h=>c3 (t2.2 h.2.2))⟩,by simp;omega,rfl⟩
    ·rw [if_neg c2];exact .inr ⟨_,⟨a1,j+1,rfl,by omega,by omega,nx _ (no fun h=>c2 h.2.1)⟩,by simp;omega,rfl⟩
   ·rw [if_neg c1];exact .inr ⟨_,⟨a1,j+1,rfl,by omega,by omega,nx _ (no fun h=>c1 h.1)⟩,by simp;omega,rfl⟩
  ·rw [if_neg (by omega)];have:j=w.size+1:=by omega
   subst this;exact .inl ⟨_,rfl,a1,rfl,k3.mono (by omega) fun h j' q1 q2=>h j' q1 (by omega)⟩
theorem ro_l5 {r c k:Nat}(h:Pl g r c k)(a:List Int)(hal:a.length≤900000000)(hga:∀ x ∈ a,GdB g w rs qs x) :
  ∃ a',G0.l5 K (tb g w ns rs) ms qs (r:Int) (c:Int) (k:Int) K (a,0)=some (a',((w.size+1:Nat):Int))∧Ap (GdB g w rs qs) 1089 a a' (∀ i j,i≤j→j≤w.size→¬ CandB g w rs ms qs r c k i j):=by
 have hW:(tb g w ns rs).W=w:=rfl;have key:=rounds (σ:=List Int×Int) (ρ:=List Int×Int) (L:=G0.l5 K (tb g w ns rs) ms qs (r:Int) (c:Int) (k:Int))
  (fun z=>∃ (a1:List Int) (i:Nat),z=(a1,(i:Int))∧i≤w.size+1∧Ap (GdB g w rs qs) (33*i) a a1 (∀ i',i'<i→∀ j,i'≤j→j≤w.size→¬ CandB g w rs ms qs r c k i' j))
  (fun z=>w.size+1-z.2.toNat)
  (fun ρ=>∃ a',ρ=(a',((w.size+1:Nat):Int))∧Ap (GdB g w rs qs) 1089 a a' (∀ i j,i≤j→j≤w.size→¬ CandB g w rs ms qs r c k i j)) ?_ K (a,0) ⟨a,0,rfl,by omega,(Ap.refl hga).mono (Nat.zero_le _) fun _ i' _=>by omega⟩ (by simp;omega)
 ·obtain ⟨ρ,e1,a',rfl,h1⟩:=key;exact ⟨a',e1,h1⟩
 ·rintro z mm ⟨a1,i,rfl,k2,k3⟩;simp only [G0.l5];rw [hW]
  by_cases hq:i≤w.size
  ·have e4:IntKind.wrap .i64 ((i:Int)+1)=((i+1:Nat):Int):=by rw [wr (by omega) (by omega)];rfl
   have kl:=k3.l;obtain ⟨a2,g1,g2⟩:=ro_l6 hK hb hn hw hs hnl hrl hml hql h a1 (by omega) k3.g hq;rw [if_pos (by omega),g1,Option.bind_some,e4];refine .inr ⟨_,⟨a2,i+1,rfl,by omega,(k3.trans g2).mono (by omega) fun ⟨c1,c2⟩ i' q1=>?_⟩,by simp;omega,rfl⟩
   by_cases e:i'=i
   ·subst e;exact c2
   ·exact c1 i' (by omega)
  ·rw [if_neg (by omega)];have:i=w.size+1:=by omega
   subst this;exact .inl ⟨_,rfl,a1,rfl,k3.mono (by omega) fun h i' j q1 q2=>h i' (by omega) j q1 q2⟩
def NoB (g:Grammar)(w:ByteArray)(rs ms qs:List Int)(r c k:Nat):Prop:=∀ i j,i≤j→j≤w.size→¬ CandB g w rs ms qs r c k i j
theorem ro_l4 {r c:Nat}(hr:r<g.Rules.length)(hc:c<(rd g.Rules (r:Int)).Conj.length):∀ (d k m:Nat) (b:List Int),k+d=(seqA g r c).length+1→d<m→b.length+1089*d≤800000000→(∀ x ∈ b,GdB g w rs qs x) →
  ∃ b',G0.l4 K (tb g w ns rs) ms qs (r:Int) (c:Int) m (b,(k:Int))=some (b',(((seqA g r c).length+1:Nat):Int))∧Ap (GdB g w rs qs) (1089*d) b b' (∀ j,k≤j→j≤(seqA g r c).length→NoB g w rs ms qs r c j)
 | 0,k,m,b,hk,hm,hbl,hg=>by
  obtain ⟨m,rfl⟩:=sSx hm;have hG:(tb g w ns rs).G=g:=rfl;have hsl:((rd (rd g.Rules (r:Int)).Conj (c:Int)).Seq.length:Int)=((seqA g r c).length:Int):=rfl;simp only [G0.l4];rw [hG,hsl,if_pos (by omega),if_neg (by omega)];exact ⟨b,by congr 3 <;> omega,(Ap.refl hg).mono (by omega) fun _ j h1 h2=>by omega⟩
 | d+1,k,m,b,hk,hm,hbl,hg=>by
  obtain ⟨m,rfl⟩:=sSx hm;have hG:(tb g w ns rs).G=g:=rfl;have hsl:((rd (rd g.Rules (r:Int)).Conj (c:Int)).Seq.length:Int)=((seqA g r c).length:Int):=rfl;have h64:(seqA g r c).length≤64:=(hb.2 _ (rd_mem (xs:=g.Rules) (i:=(r:Int)) (by omega) (by omega))).2 _ (rd_mem (xs:=(rd g.Rules (r:Int)).Conj) (i:=(c:Int)) (by omega) (by omega));have hp:Pl g r c k:=⟨hr,hc,by show k≤(seqA g r c).length;omega⟩
  obtain ⟨b1,h1,h2⟩:=ro_l5 hK hb hn hw hs hnl hrl hml hql hp b (by omega) hg;have hl2:=h2.l;obtain ⟨b2,g1,g2⟩:=ro_l4 hr hc d (k+1) m b1 (by omega) (by omega) (by omega) h2.g;simp only [G0.l4];rw [hG,hsl,if_pos (by omega),if_pos (by omega),h1,Option.bind_some,wr (by omega) (by omega)];refine ⟨b2,g1,(h2.trans g2).mono (by omega) fun ⟨c1,c2⟩ j hj hjl=>?_⟩;rcases Nat.eq_or_lt_of_le hj with rfl|hj
  ·exact c1
  ·exact c2 j hj hjl
theorem ro_l3 {r:Nat}(hr:r<g.Rules.length):∀ (d c m:Nat) (b:List Int),c+d=(rd g.Rules (r:Int)).Conj.length→d<m→b.length+70785*d≤700000000→(∀ x ∈ b,GdB g w rs qs x) →
  ∃ b',G0.l3 K (tb g w ns rs) ms qs (r:Int) m (b,(c:Int))=some (b',((rd g.Rules (r:Int)).Conj.length:Int))∧Ap (GdB g w rs qs) (70785*d) b b' (∀ c',c≤c'→c'<(rd g.Rules (r:Int)).Conj.length→∀ j,j≤(seqA g r c').length→NoB g w rs ms qs r c' j)
 | 0,c,m,b,hc,hm,hbl,hg=>by
  obtain ⟨m,rfl⟩:=sSx hm;have hG:(tb g w ns rs).G=g:=rfl;simp only [G0.l3];rw [hG,if_neg (by omega)];exact ⟨b,by congr 3 <;> omega,(Ap.refl hg).mono (by omega) fun _ c' h1 h2=>by omega⟩
 | d+1,c,m,b,hc,hm,hbl,hg=>by
  obtain ⟨m,rfl⟩:=sSx hm;have hG:(tb g w ns rs).G=g:=rfl;have hrb:=hb.2 _ (rd_mem (xs:=g.Rules) (i:=(r:Int)) (by omega) (by omega));have h8:=hrb.1;have h64:(seqA g r c).length≤64:=hrb.2 _ (rd_mem (xs:=(rd g.Rules (r:Int)).Conj) (i:=(c:Int)) (by omega) (by omega));obtain ⟨b1,h1,h2⟩:=ro_l4 hK hb hn hw hs hnl hrl hml hql hr (show c<_ by omega) ((seqA g r c).length+1) 0 K b (by omega) (by omega) (by omega) hg;have hl2:=h2.l;obtain ⟨b2,g1,g2⟩:=ro_l3 hr d (c+1) m b1 (by omega) (by omega) (by omega) h2.g;have h1':G0.l4 K (tb g w ns rs) ms qs (r:Int) (c:Int) K (b,0)=some (b1,(((seqA g r c).length+1:Nat):Int)):=h1;simp only [G0.l3];rw [hG,if_pos (by omega),h1',Option.bind_some,wr (by omega) (by omega)];refine ⟨b2,g1,(h2.trans g2).mono (by omega) fun ⟨c1,c2⟩ c' hc' hcl j hj=>?_⟩;rcases Nat.eq_or_lt_of_le hc' with rfl|hc'
  ·exact c1 j (Nat.zero_le _) hj
  ·exact c2 c' hc' hcl j hj
def NoR (g:Grammar)(w:ByteArray)(ns rs ms qs:List Int)(r:Nat):Prop:=(∀ i j,i≤j→j≤w.size→¬ CandA g w ns ms qs r i j)∧∀ c,c<(rd g.Rules (r:Int)).Conj.length→∀ j,j≤(seqA g r c).length→NoB g w rs ms qs r c j
theorem ro_l0 {lv:Int→Int}(hlv:LvS g.Names.length g.Rules lv)(hsx:SX g w ns rs)(hrx:∀ r,r<g.Rules.length→RX g w ns rs r):∀ (d r m:Nat) (a b:List Int),r+d=g.Rules.length→d<m→a.length+1089*d≤1000000→b.length+566280*d≤200000000→(∀ x ∈ a,GdA g w ns ms x)→(∀ x ∈ b,GdB g w rs qs x) →
  ∃ a' b',G0.l0 K (tb g w ns rs) ms qs m (b,a,(r:Int))=some (b',a',(g.Rules.length:Int))∧(∀ x ∈ a',GdA g w ns ms x)∧(∀ x ∈ b',GdB g w rs qs x)∧a'.length≤a.length+1089*d∧b'.length≤b.length+566280*d∧(a'=[]→b'=[]→a=[]∧b=[]∧∀ r',r≤r'→r'<g.Rules.length→NoR g w ns rs ms qs r')
 | 0,r,m,a,b,hr,hm,hal,hbl,hga,hgb=>by
  obtain ⟨m,rfl⟩:=sSx hm;have hG:(tb g w ns rs).G=g:=rfl;simp only [G0.l0];rw [hG,if_neg (by omega)];exact ⟨a,b,by congr 4 <;> omega,hga,hgb,by omega,by omega,fun h1 h2=>⟨h1,h2,fun r' h3 h4=>by omega⟩⟩
 | d+1,r,m,a,b,hr,hm,hal,hbl,hga,hgb=>by
  obtain ⟨m,rfl⟩:=sSx hm;have hG:(tb g w ns rs).G=g:=rfl;have h256:=hb.1;have hrl':r<g.Rules.length:=by omega
  have h8:=(hb.2 _ (rd_mem (xs:=g.Rules) (i:=(r:Int)) (by omega) (by omega))).1;obtain ⟨a1,h1,h2⟩:=ro_l1 hK hb hn hw hs hnl hrl hml hql hlv hsx hrl' (hrx r hrl') a (by omega) hga;obtain ⟨b1,h3,h4⟩:=ro_l3 hK hb hn hw hs hnl hrl hml hql hrl' (rd g.Rules (r:Int)).Conj.length 0 K b (by omega) (by omega) (by omega) hgb;have h3':G0.l3 K (tb g w ns rs) ms qs (r:Int) K (b,0)=some (b1,((rd g.Rules (r:Int)).Conj.length:Int)):=h3;have l2:=h2.l;have l4:=h4.l;obtain ⟨a2,b2,g1,g2,g3,g4,g5,g6⟩:=ro_l0 hlv hsx hrx d (r+1) m a1 b1 (by omega) (by omega) (by omega) (by omega) h2.g h4.g;simp only [G0.l0];rw [hG,if_pos (by omega),if_pos (by omega),h1,Option.bind_some];simp only;rw [h3',Option.bind_some,wr (by omega) (by omega)];refine ⟨a2,b2,g1,g2,g3,by omega,by omega,fun e1 e2=>?_⟩;obtain ⟨q1,q2,q3⟩:=g6 e1 e2;obtain ⟨q4,q5⟩:=h2.e q1;obtain ⟨q6,q7⟩:=h4.e q2;refine ⟨q4,q6,fun r' hr' hrl2=>?_⟩;rcases Nat.eq_or_lt_of_le hr' with rfl|hr'
  ·exact ⟨q5,fun c hc j hj=>q7 c (Nat.zero_le _) hc j hj⟩
  ·exact q3 r' hr' hrl2
end
end RT
namespace RT
open S Go.Sort
set_option maxRecDepth 100000
structure RK (g:Grammar)(w:ByteArray)(ns ms qs:List Int):Prop where
 ml:ms.length=g.Names.length*wd w
 ql:(qs.length:Int)=total_ g*(wd w:Int)
 mp:∀ x:Int,0≤x→x<((g.Names.length*wd w:Nat):Int)→rd ms x=0∨0<rd ms x
 qp:∀ x:Int,0≤x→x<total_ g*(wd w:Int)→rd qs x=0∨0<rd qs x
 so:∀ x:Int,0≤x→x<((g.Names.length*wd w:Nat):Int)→0<rd ms x→0<rd ns x
def Fixd (g:Grammar)(w:ByteArray)(ns rs ms qs:List Int):Prop:=∀ r,r<g.Rules.length→NoR g w ns rs ms qs r
section
variable {K:Nat}{g:Grammar}{w:ByteArray}{ns rs:List Int}{lv:Int→Int}(hK:2000000000≤K)(hb:Bd g)(hn:g.Names.length≤64)(hw:w.size≤32)(hs:NmOk g)(hlv:LvS g.Names.length g.Rules lv)(hT:TI g w lv ((g.Names.length:Int)+1) ns rs)(hlt:∀ y:Int,0≤y→y<g.Names.length→0≤lv y∧lv y≤(g.Names.length:Int)-1)
include hK hb hn hw hs hlv hT hlt
theorem rx_all (r:Nat)(hr:r<g.Rules.length):RX g w ns rs r:=by
 obtain ⟨⟨a,b⟩,_⟩:=hlv _ (rd_mem (xs:=g.Rules) (i:=(r:Int)) (by omega) (by omega));exact hT.rx r hr (by have:=(hlt _ a b).2;omega)
theorem round_spec {ms qs:List Int}(h:RK g w ns ms qs):∃ a b,G0 K (tb g w ns rs) ms qs=some (a,b)∧(∀ x ∈ a,GdA g w ns ms x)∧(∀ x ∈ b,GdB g w rs qs x)∧a.length≤1000000∧b.length≤200000000∧(a=[]→b=[]→Fixd g w ns rs ms qs):=by
 have h256:=hb.1;obtain ⟨a,b,g1,g2,g3,g4,g5,g6⟩:=ro_l0 (K:=K) (by omega) hb hn hw hs hT.nl hT.rl h.ml h.ql hlv hT.sx (rx_all hK hb hn hw hs hlv hT hlt) g.Rules.length 0 K [] [] (by omega) (by omega) (by simp only [List.length_nil];omega) (by simp only [List.length_nil];omega) (fun x hx=>by cases hx) (fun x hx=>by cases hx);simp only [List.length_nil] at g4 g5;have g1':G0.l0 K (tb g w ns rs) ms qs K (([]:List Int),([]:List Int),0)=some (b,a,(g.Rules.length:Int)):=g1;refine ⟨a,b,?_,g2,g3,by omega,by omega,fun e1 e2 r hr=>(g6 e1 e2).2.2 r (Nat.zero_le _) hr⟩;unfold G0;rw [g1'];rfl
theorem rank_l0:∀ (d m:Nat) (ms qs:List Int) (round:Int),cz (g.Names.length*wd w) ms+cz (total_ g*(wd w:Int)).toNat qs≤d→d<m→RK g w ns ms qs→1≤round→round+(d:Int)≤1000000000→∃ ms' qs' rd',L2.l0 K (tb g w ns rs) m (ms,qs,round)=some (ms',qs',rd')∧RK g w ns ms' qs'∧Fixd g w ns rs ms' qs'
 | d,m,ms,qs,round,hd,hm,h,hr1,hr2=>by
  obtain ⟨m,rfl⟩:=sSx hm;have h7:=total_le hb;obtain ⟨a,b,g1,g2,g3,g4,g5,g6⟩:=round_spec hK hb hn hw hs hlv hT hlt h;have e0:(⟨⟨(tb g w ns rs).G.Start,(tb g w ns rs).G.Names,(tb g w ns rs).G.Rules⟩,(tb g w ns rs).W,(tb g w ns rs).wide,(tb g w ns rs).names,(tb g w ns rs).conj,(tb g w ns rs).rests⟩:L0)=tb g w ns rs:=rfl;simp only [L2.l0];rw [e0,g1,Option.bind_some];simp only;rw [wr (a:=(a.length:Int)+(b.length:Int)) (by omega) (by omega)]
  by_cases c:(a.length:Int)+(b.length:Int)=0
  ·rw [if_pos c];exact ⟨ms,qs,round,rfl,h,g6 (List.eq_nil_of_length_eq_zero (by omega)) (List.eq_nil_of_length_eq_zero (by omega))⟩
  ·rw [if_neg c];have hql:=h.ql;have hml:=h.ml;obtain ⟨ms1,k1,k2,k3⟩:=markLoop (v:=round) (l:=a) (L:=L2.l1 K round (a,b)) (fun m s i hi h0 h1=>by
    simp only [L2.l1];rw [if_pos (by omega),if_pos (by omega),if_pos h0,if_pos h1,wr (a:=(i:Int)+1) (by omega) (by omega)]) (fun m s=>by simp only [L2.l1];rw [if_neg (by omega)]) a.length 0 K ms (by omega) (by omega) (fun x hx=>by have:=(g2 x hx).1;omega)
   obtain ⟨qs1,l1,l2,l3⟩:=markLoop (v:=round) (l:=b) (L:=L2.l2 K round (a,b)) (fun m s i hi h0 h1=>by
    simp only [L2.l2];rw [if_pos (by omega),if_pos (by omega),if_pos h0,if_pos h1,wr (a:=(i:Int)+1) (by omega) (by omega)]) (fun m s=>by simp only [L2.l2];rw [if_neg (by omega)]) b.length 0 K qs (by omega) (by omega) (fun x hx=>by have:=(g3 x hx).1;omega)
   rw [List.drop_zero] at k3 l3;have k1':L2.l1 K round (a,b) K (ms,0)=some (ms1,(a.length:Int)):=k1;have l1':L2.l2 K round (a,b) K (qs,0)=some (qs1,(b.length:Int)):=l1;have upm:∀ x:Int,0≤x→x<((g.Names.length*wd w:Nat):Int)→0<rd ms x→0<rd ms1 x:=fun x p q hx=>by
    by_cases cx:x ∈ a
    ·rw [(k3 x p (by omega)).1 cx];omega
    ·rw [(k3 x p (by omega)).2 cx];exact hx
   have upq:∀ x:Int,0≤x→x<((total_ g*(wd w:Int)).toNat:Int)→0<rd qs x→0<rd qs1 x:=fun x p q hx=>by
    by_cases cx:x ∈ b
    ·rw [(l3 x p (by omega)).1 cx];omega
    ·rw [(l3 x p (by omega)).2 cx];exact hx
   have hR:RK g w ns ms1 qs1:=by
    refine ⟨by omega,by omega,fun x p q=>?_,fun x p q=>?_,fun x p q hx=>?_⟩
    ·by_cases cx:x ∈ a
     ·rw [(k3 x p (by omega)).1 cx];exact .inr (by omega)
     ·rw [(k3 x p (by omega)).2 cx];exact h.mp x p q
    ·by_cases cx:x ∈ b
     ·rw [(l3 x p (by omega)).1 cx];exact .inr (by omega)
     ·rw [(l3 x p (by omega)).2 cx];exact h.qp x p q
    ·by_cases cx:x ∈ a
     ·exact (g2 x cx).2.1
     ·rw [(k3 x p (by omega)).2 cx] at hx;exact h.so x p q hx
   have hless:cz (g.Names.length*wd w) ms1+cz (total_ g*(wd w:Int)).toNat qs1<cz (g.Names.length*wd w) ms+cz (total_ g*(wd w:Int)).toNat qs:=by
    have m1:=cz_le upm;have m2:=cz_le upq
    by_cases ca:a=[]
    ·obtain ⟨x,hx⟩:∃ x,x ∈ b:=by
      cases b with
      | nil=>subst ca;simp at c
      | cons y ys=>exact ⟨y,.head _⟩
     obtain ⟨⟨p,q⟩,_,z⟩:=g3 x hx;have:=cz_lt upq p (show x<((total_ g*(wd w:Int)).toNat:Int) by omega) (by omega) (by rw [(l3 x p (by omega)).1 hx];omega);omega
    ·obtain ⟨x,hx⟩:∃ x,x ∈ a:=by
      cases a with
      | nil=>exact absurd rfl ca
      | cons y ys=>exact ⟨y,.head _⟩
     obtain ⟨⟨p,q⟩,_,z⟩:=g2 x hx;have:=cz_lt upm p q (by omega) (by rw [(k3 x p (by omega)).1 hx];omega);omega
   rw [k1',Option.bind_some];simp only;rw [l1',Option.bind_some,wr (a:=round+1) (by omega) (by omega)]
   cases d with
   | zero=>omega
   | succ d=>exact rank_l0 d m ms1 qs1 (round+1) (by omega) (by omega) hR (by omega) (by push_cast at hr2;omega)
theorem fixd_has {ms qs:List Int}(h:RK g w ns ms qs)(hf:Fixd g w ns rs ms qs):∀ (t:Nat) (y:Int),0≤y→y<g.Names.length→lv y<t→∀ i j,i≤j→j≤w.size→NmS w ns y i j→NmS w ms y i j:=by
 have so:∀ y:Int,0≤y→y<g.Names.length→∀ i j,i≤j→j≤w.size→NmS w ms y i j→NmS w ns y i j:=fun y a b i j hij hj hx=>by
  have:=ni_lt (g:=g) (w:=w) a b (show i≤w.size by omega) hj;exact h.so _ this.1 this.2 hx
 intro t
 induction t with
 | zero=>intro y a b c _;have:=(hlt y a b).1;omega
 | succ t ih =>
  intro y a b c i j hij hj hy
  by_cases c2:lv y<t
  ·exact ih y a b c2 i j hij hj hy
  have e:lv y=t:=by omega
  refine hT.ri.d (t:Int) (NmS w ms) (fun z z1 z2 z3 i j hij hj=>⟨so z z1 z2 i j hij hj,ih z z1 z2 z3 i j hij hj⟩) (fun r hr hrt i j hij hj hh=>?_) y a b e i j hij hj hy;obtain ⟨q,hq,rfl⟩:=List.getElem_of_mem hr;have er:rd g.Rules (q:Int)=g.Rules[q]:=by rw [rd_nat,List.getD_eq_getElem?_getD,List.getElem?_eq_getElem hq];rfl
  rw [← er] at hr hrt hh ⊢;obtain ⟨⟨a0,a1⟩,hlq⟩:=hlv _ hr;have hh2:RuleS (NmS w ns) (wv w) (rd g.Rules (q:Int)) i j:=RuleS_mono hlv hr (fun z z1 z2 z3 a' b' _ h2 h3=>⟨so z z1 z2 a' b' h2 (by omega),ih z z1 z2 (by omega) a' b' h2 (by omega)⟩) (fun z z1 z2 _ a' b' _ h2 h3 hz=>so z z1 z2 a' b' h2 (by omega) hz) hh;have hns:NmS w ns (rd g.Rules (q:Int)).Head i j:=hT.ri.c _ hr (by have:=(hlt _ a0 a1).2;omega) i j hij hj hh2;have h8:=ni_lt (g:=g) (w:=w) a0 a1 (show i≤w.size by omega) hj;refine Classical.byContradiction fun hno=>?_
  have hm0:rd ms (ni w (rd g.Rules (q:Int)).Head i j)=0:=(h.mp _ h8.1 h8.2).resolve_right hno;refine (hf q hq).1 i j hij hj ⟨hns,hm0,hh2,fun c hc hneg hq0=>?_⟩;have hcm:=rd_mem (xs:=(rd g.Rules (q:Int)).Conj) (i:=(c:Int)) (by omega) (by omega);have he:SeqS (NmS w ms) (wv w) (seqA g q c) i j:=by
   have h3:=hh _ hcm;rw [hneg] at h3;exact Classical.byContradiction fun hx=>by cases h3.2 hx
  have hdown:∀ (d k:Nat),k+d=(seqA g q c).length→∀ a b,a≤b→b≤w.size→Sfx g w ms q c k a b→0<rd qs (qi g w q c k a b):=by
   intro d
   induction d with
   | zero =>
    intro k hk a b hab hb' hsf;have hp:Pl g q c k:=⟨hq,hc,by show k≤(seqA g q c).length;omega⟩
    have h9:=qi_lt (w:=w) hp (show a≤w.size by omega) hb';refine (h.qp _ h9.1 h9.2).resolve_left fun h0=>?_
    refine (hf q hq).2 c hc k (by omega) a b hab hb' ⟨?_,h0,next_suf hp hb' hsf fun hlt2=>by omega⟩;refine rx_all hK hb hn hw hs hlv hT hlt q hq c k hp a b hab hb' (SeqS_mono (fun s hs' h0 a' b' g1 g2 g3 hx=>?_) hsf);obtain ⟨m1,m2,m3⟩:=sfx_sym hp hs';exact so _ h0 ((hlv _ m1).2 _ m2 _ m3 h0).1 a' b' g2 (by omega) hx
   | succ d ihd =>
    intro k hk a b hab hb' hsf;have hp:Pl g q c k:=⟨hq,hc,by show k≤(seqA g q c).length;omega⟩
    have h9:=qi_lt (w:=w) hp (show a≤w.size by omega) hb';refine (h.qp _ h9.1 h9.2).resolve_left fun h0=>?_
    refine (hf q hq).2 c hc k (by omega) a b hab hb' ⟨?_,h0,next_suf hp hb' hsf fun hlt2=>fun i' j' g1 g2 g3=>ihd (k+1) (by omega) i' j' g1 g2 g3⟩;refine rx_all hK hb hn hw hs hlv hT hlt q hq c k hp a b hab hb' (SeqS_mono (fun s hs' h0 a' b' g1 g2 g3 hx=>?_) hsf);obtain ⟨m1,m2,m3⟩:=sfx_sym hp hs';exact so _ h0 ((hlv _ m1).2 _ m2 _ m3 h0).1 a' b' g2 (by omega) hx
  have:=hdown (seqA g q c).length 0 (by omega) i j hij hj (by unfold Sfx;rw [List.drop_zero];exact he);omega
theorem rank_spec:∃ ms qs,L2 K (tb g w ns rs)=some (tb g w ms qs)∧ms.length=g.Names.length*wd w∧∀ x:Int,0≤x→x<g.Names.length→∀ i j,i≤j→j≤w.size→(NmS w ms x i j↔NmS w ns x i j):=by
 have h7:=total_le hb;have hnl:=hT.nl;have hrl:=hT.rl;have h4:=wd_le hw;have h5:g.Names.length*wd w≤64*1089:=Nat.mul_le_mul hn h4;have h6:total_ g*(wd w:Int)≤133120*1089:=Int.mul_le_mul h7.2 (by omega) (by omega) (by decide);have hR0:RK g w ns (List.replicate ns.length 0) (List.replicate rs.length 0):=⟨by simp [hnl],by simp [hrl],fun x p q=>.inl (rdi_rep _ p (by omega)),fun x p q=>.inl (rdi_rep _ p (by omega)),fun x p q hx=>by rw [rdi_rep _ p (by omega)] at hx;omega⟩
 have c1:=cz_len (g.Names.length*wd w) (List.replicate ns.length 0);have c2:=cz_len (total_ g*(wd w:Int)).toNat (List.replicate rs.length 0);obtain ⟨ms,qs,rd',g1,g2,g3⟩:=rank_l0 hK hb hn hw hs hlv hT hlt (cz (g.Names.length*wd w) (List.replicate ns.length 0)+cz (total_ g*(wd w:Int)).toNat (List.replicate rs.length 0)) K _ _ 1 (Nat.le_refl _) (by omega) hR0 (by omega) (by omega);refine ⟨ms,qs,?_,g2.ml,fun x p q i j hij hj=>⟨fun hx=>?_,fixd_has hK hb hn hw hs hlv hT hlt g2 g3 (lv x+1).toNat x p q (by have:=(hlt x p q).1;omega) i j hij hj⟩⟩
 ·have hnm:(tb g w ns rs).names=ns:=rfl;have hrt:(tb g w ns rs).rests=rs:=rfl;unfold L2;rw [hnm,hrt,if_pos (by omega),if_pos (by omega),Option.bind_some,Int.toNat_natCast,Int.toNat_natCast,g1];rfl
 ·have:=ni_lt (g:=g) (w:=w) p q (show i≤w.size by omega) hj;exact g2.so _ this.1 this.2 hx
end
end RT
namespace RT
open S Go.Sort
set_option maxRecDepth 100000
abbrev StN:=(List Int)×(List Int)×Int×(List ByteArray)×(List Rule)×ByteArray×Int×(List (List Int))×Int
def sN (g:Grammar)(w:ByteArray)(ns rs:List Int)(u:Int):StN:=(rs,ns,g.Start,g.Names,g.Rules,w,(wd w:Int),cjs g,u)
section
variable {K:Nat}{g:Grammar}{w:ByteArray}{xs:List Int}(hK:2000000000≤K)(hb:Bd g)(hn:g.Names.length≤64)(hw:w.size≤32)(hs:NmOk g)(hx:xs.length=g.Names.length)(hlv:LvS g.Names.length g.Rules (rd xs))
theorem n2_step (m:Nat)(p:List Int×Int)(ns rs:List Int)(u:Int):J2.l2 K g (xs,p) (m+1) (sN g w ns rs u)=if u≤(g.Names.length:Int) then (M2 K (tb g w ns rs) xs u).bind fun r_45=>J2.l2 K g (xs,p) m (r_45.rests,r_45.names,r_45.G.Start,r_45.G.Names,r_45.G.Rules,r_45.W,r_45.wide,r_45.conj,IntKind.wrap .i64 (u+1)) else some (sN g w ns rs u):=rfl
include hK hb hn hw hs hx hlv in
theorem n2_spec (p:List Int×Int):∀ (d u m:Nat) (ns rs:List Int),u+d=g.Names.length+1→d<m→TI g w (rd xs) (u:Int) ns rs→∃ ns' rs',J2.l2 K g (xs,p) m (sN g w ns rs (u:Int))=some (sN g w ns' rs' ((g.Names.length:Int)+1))∧TI g w (rd xs) ((g.Names.length:Int)+1) ns' rs'
 | 0,u,m,ns,rs,hu,hm,hT=>by
  obtain ⟨m,rfl⟩:=sSx hm;have e:(u:Int)=(g.Names.length:Int)+1:=by omega
  rw [n2_step,if_neg (by omega),e];rw [e] at hT;exact ⟨ns,rs,rfl,hT⟩
 | d+1,u,m,ns,rs,hu,hm,hT=>by
  obtain ⟨m,rfl⟩:=sSx hm;obtain ⟨ns1,rs1,g1,g2⟩:=fill_spec (K:=K) (by omega) hb hn hw hs hx hlv hT;have e:(u:Int)+1=((u+1:Nat):Int):=by omega
  rw [n2_step,if_pos (by omega),g1,Option.bind_some,wr (a:=(u:Int)+1) (by omega) (by omega),e];rw [e] at g2;exact n2_spec p d (u+1) m ns1 rs1 (by omega) (by omega) g2
end
theorem NewTable_ok (K:Nat)(hK:2000000000≤K)(g:Grammar)(xs:List Int)(hf:LvF g xs)(h1:W3 K g=some (xs,[],0))(w:ByteArray)(hw:w.size≤32) :
  ∃ ms qs,J2 K g w=some (some (tb g w ms qs),0)∧ms.length=g.Names.length*wd w∧PMs g.Names.length g.Rules (rd xs) (wv w) w.size (NmS w ms):=by
 have hm:=hf.may;have hb:=may_bd hm;have hn:=hm.1.2.1;have hs:=nm_ok hm;have hxl:=hf.xl;have hlv:=hf.lv;have h7:=total_le hb;have h256:=hb.1;have h4:=wd_le hw;have h5:g.Names.length*wd w≤64*1089:=Nat.mul_le_mul hn h4;have h60:0≤total_ g*(wd w:Int):=Int.mul_nonneg h7.1 (by omega);have h6:total_ g*(wd w:Int)≤133120*1089:=Int.mul_le_mul h7.2 (by omega) (by omega) (by decide);have hlt:∀ y:Int,0≤y→y<g.Names.length→0≤rd xs y∧rd xs y≤(g.Names.length:Int)-1:=fun y a b=>⟨hf.l0 y a b,hf.l1 y a b⟩
 have h0:=nt_l0 K (by omega) g hb g.Rules.length 0 K [] 0 (by omega) (by omega) (by simp only [List.length_nil];omega) (Int.le_refl _) (by rw [List.drop_zero];show total_ g≤_;omega);rw [List.drop_zero,List.nil_append] at h0;have h0':J2.l0 K g K (([]:List (List Int)),0,0)=some (cjs g,total_ g,(g.Rules.length:Int)):=h0;have hzn:∀ x:Int,0≤x→x<g.Names.length→∀ i j,i≤j→j≤w.size→¬ NmS w (List.replicate (g.Names.length*wd w) (0:Int)) x i j:=fun x a b i j hij hj hx=>by
  have:=ni_lt (g:=g) (w:=w) a b (show i≤w.size by omega) hj;unfold NmS at hx;rw [rdi_rep _ this.1 this.2] at hx;omega
 have hT0:TI g w (rd xs) ((0:Nat):Int) (List.replicate (g.Names.length*wd w) 0) (List.replicate (total_ g*(wd w:Int)).toNat 0):=by
  refine ⟨by simp,by rw [List.length_replicate];omega,⟨fun x a b i j hij hj h=>(hzn x a b i j hij hj h).elim,fun x a b i j hij hj h=>(hzn x a b i j hij hj h).elim,fun r hr ht _=>?_,fun t M _ _ y a b _ i j hij hj hy=>(hzn y a b i j hij hj hy).elim⟩,fun r c k hp i j hij hj h=>?_,fun r hr ht=>?_⟩
  ·obtain ⟨⟨a,b⟩,_⟩:=hlv r hr;have:=(hlt r.Head a b).1;omega
  ·have:=qi_lt (w:=w) hp (show i≤w.size by omega) hj;rw [rdi_rep _ this.1 (by omega)] at h;omega
  ·obtain ⟨⟨a,b⟩,_⟩:=hlv _ (rd_mem (xs:=g.Rules) (i:=(r:Int)) (by omega) (by omega));have:=(hlt _ a b).1;omega
 obtain ⟨ns,rs,g1,g2⟩:=n2_spec hK hb hn hw hs hxl hlv ([],0) (g.Names.length+1) 0 K _ _ (by omega) (by omega) hT0;obtain ⟨ms,qs,g3,g4,g5⟩:=rank_spec hK hb hn hw hs hlv g2 hlt;refine ⟨ms,qs,?_,g4,?_⟩
 ·have e1:IntKind.wrap .i64 ((IntKind.wrap .i64 ((w.size:Int)+1))*(IntKind.wrap .i64 ((w.size:Int)+1)))=(wd w:Int):=by
   have e:((w.size:Int)+1)*((w.size:Int)+1)=(wd w:Int):=by rw [Int.natCast_mul];rfl
   rw [wr (a:=(w.size:Int)+1) (by omega) (by omega),e,wr (by omega) (by omega)]
  have e2:(g.Names.length:Int)*(wd w:Int)=((g.Names.length*wd w:Nat):Int):=(Int.natCast_mul _ _).symm;have g1':J2.l2 K g (xs,[],0) K (List.replicate (total_ g*(wd w:Int)).toNat (0:Int),List.replicate (g.Names.length*wd w) (0:Int),g.Start,g.Names,g.Rules,w,(wd w:Int),cjs g,0)=some (sN g w ns rs ((g.Names.length:Int)+1)):=g1;unfold J2;rw [h1,Option.bind_some,if_neg (fun h=>h rfl),if_neg (by omega),h0',Option.bind_some];simp only;rw [e1,e2,wr (a:=((g.Names.length*wd w:Nat):Int)) (by omega) (by omega),wr (a:=total_ g*(wd w:Int)) (by omega) (by omega),if_pos (by omega),if_pos (by omega),if_pos (by omega),if_pos (by omega),Int.toNat_natCast,g1',Option.bind_some];have g3':L2 K (⟨⟨g.Start,g.Names,g.Rules⟩,w,(wd w:Int),ns,cjs g,rs⟩:L0)=some (tb g w ms qs):=g3;simp only [sN];rw [g3'];rfl
 ·have hp:=g2.ri.done hlv fun y a b=>by have:=(hlt y a b).2;omega
  intro i j hij hj;have h1:=(hp i j hij hj).env hlv (B:=NmS w ms) fun y y1 y2 a b _ h2 h3 _=>(g5 y y1 y2 a b h2 (by omega)).symm
  refine ⟨fun r hr hH=>?_,fun x x1 x2 hx=>?_,fun t M hM hc y y1 y2 hy hx=>?_⟩
  ·obtain ⟨a0,a1⟩:=(hlv r hr).1;refine (g5 _ a0 a1 i j hij hj).2 (h1.cl r hr ?_);unfold HS at hH ⊢;exact RuleS_mono hlv hr (fun z z1 z2 z3 a b _ h2 h3=>by
    unfold upd
    split
    ·exact g5 z z1 z2 i j hij hj
    ·exact Iff.rfl) (fun z z1 z2 z3 a b _ h2 h3 q=>by
    unfold upd at q ⊢
    split
    ·rename_i e;rw [if_pos e] at q;exact (g5 z z1 z2 i j hij hj).1 q
    ·rename_i e;rw [if_neg e] at q;exact q) hH
  ·obtain ⟨r,hr,e,hH⟩:=h1.su x x1 x2 ((g5 x x1 x2 i j hij hj).1 hx);refine ⟨r,hr,e,?_⟩;unfold HS at hH ⊢;exact RuleS_mono hlv hr (fun z z1 z2 z3 a b _ h2 h3=>by
    unfold upd
    split
    ·exact (g5 z z1 z2 i j hij hj).symm
    ·exact Iff.rfl) (fun z z1 z2 z3 a b _ h2 h3 q=>by
    unfold upd at q ⊢
    split
    ·rename_i e;rw [if_pos e] at q;exact (g5 z z1 z2 i j hij hj).2 q
    ·rename_i e;rw [if_neg e] at q;exact q) hH
  ·exact h1.mi t M (fun z z1 z2 z3=>(hM z z1 z2 z3).trans (g5 z z1 z2 i j hij hj)) hc y y1 y2 hy ((g5 y y1 y2 i j hij hj).1 hx)
end RT
open S
theorem rIn_spec (K:Nat)(hK:2000000000≤K){g:Grammar}{xs:List Int}(ho:StrOut g (xs,[],0))(w:ByteArray)(hw:w.size≤32) :
  ∃ b,ac K g w=some b∧∃ N,PMs g.Names.length g.Rules (rd xs) (RT.wv w) w.size N∧(b=true↔N g.Start 0 w.size):=by
 obtain ⟨s,h1,h2⟩:=rStrata_spec K (by omega) g;have e:=h2.uniq ho;subst e;have hf:=ho.lvf;obtain ⟨ms,qs,g1,g2,g3⟩:=RT.NewTable_ok K hK g xs hf h1 w hw;have hm:=hf.may;unfold ac;rw [g1,Option.bind_some];simp only;have e0:(⟨⟨(RT.tb g w ms qs).G.Start,(RT.tb g w ms qs).G.Names,(RT.tb g w ms qs).G.Rules⟩,(RT.tb g w ms qs).W,(RT.tb g w ms qs).wide,(RT.tb g w ms qs).names,(RT.tb g w ms qs).conj,(RT.tb g w ms qs).rests⟩:L0)=RT.tb g w ms qs:=rfl;have hh:=RT.t_has (K:=K) (rs:=qs) hm.1.2.1 hw g2 hm.2.1 hm.2.2.1 (Nat.zero_le w.size) (Nat.le_refl _);rw [Int.natCast_zero] at hh;refine ⟨decide (0<rd ms (RT.ni w g.Start 0 w.size)),?_,RT.NmS w ms,g3,by rw [decide_eq_true_eq];exact Iff.rfl⟩;simp [e0,hh]
theorem rNew_bad (K:Nat)(hK:200000≤K){g:Grammar}{s:List Int×List Int×Int}(ho:StrOut g s)(h0:s.2.2≠0)(w:ByteArray):J2 K g w=some (none,1100):=by
 obtain ⟨s',h1,h2⟩:=rStrata_spec K (by omega) g;have e:=h2.uniq ho;subst e;unfold J2;rw [h1,Option.bind_some,if_pos h0]
set_option maxRecDepth 100000
theorem pnew_out (K:Nat)(hK:1000000≤K)(g:Grammar):(∃ s,StrOut g s∧s.2.2≠0∧jb K g=some (none,1700))∨∃ xs p,StrOut g (xs,[],0)∧jb K g=some (some p,0)∧FedP g [] p:=by
 unfold jb;rcases tNew_spec K hK g with ⟨s,h1,h2,h3⟩|⟨xs,e,h1,h2,h3⟩
 ·left;refine ⟨s,h1,h2,?_⟩;rw [h3,Option.bind_some];rcases cNew_spec K (by omega) g with ⟨_,_,_,c3⟩|⟨_,_,_,c2,_⟩
  ·simp [c3]
  ·simp [c2]
 ·rcases cNew_spec K (by omega) g with ⟨s,c1,c2,c3⟩|⟨ys,f,c1,c2,c3⟩
  ·left;refine ⟨s,c1,c2,?_⟩;rw [h2,Option.bind_some];simp [c3]
  ·right;refine ⟨xs,⟨e,f⟩,h1,?_,⟨xs,h3,h1.lvf⟩,ys,c3,c1.lvf⟩;rw [h2,Option.bind_some];simp [c2]
theorem say_ref (K:Nat)(hK:2000000000≤K){g:Grammar}{xs:List Int}(ho:StrOut g (xs,[],0)){w:List Int}{p:V3}(hp:FedP g w p)(hw:w.length≤32)(hb:Byt w):∃ b,Says K p b∧ac K g (strL w)=some b:=by
 obtain ⟨b,h1,ys,M,hy,h2,h3⟩:=pin_spec K hp;obtain ⟨b',h4,N,h5,h6⟩:=rIn_spec K hK ho (strL w) (by rw [strL_size];exact hw);have hf:=ho.lvf;have ew:(fun k:Nat=>rd w (k:Int))=RT.wv (strL w):=by
  funext k
  show rd w (k:Int)=bt (strL w) (k:Int);rw [bt_strL hb]
 rw [ew] at h2;rw [strL_size] at h5 h6;have hm:=hf.may;have:=PMs.two hy.lv hf.lv hy.l0 hf.l0 h2 h5 0 w.length (Nat.zero_le _) (Nat.le_refl _) g.Start hm.2.1 hm.2.2.1;have e:b=b':=by
  rw [Bool.eq_iff_iff,h3,h6];exact this
 subst e;exact ⟨b,h1,h4⟩
theorem byt_snoc17 {w:List Int}{c:Int}(h:Byt w)(h0:0≤c)(h1:c≤255):Byt (w++[c]):=fun v hv=>by
 rcases List.mem_append.1 hv with hv|hv
 ·exact h v hv
 ·rw [List.mem_singleton] at hv;omega
theorem brk_l {σ ρ:Type}(s:σ)(X:σ→Option ρ):brk (some (.inl s):Option (σ ⊕ ρ)) X=X s:=rfl
theorem say_l3 (K:Nat){p:V3}{b:Bool}(h:Says K p b)(m:Nat):P4.l1 K b (m+4) (p,0)=some (.inl (p,3)):=by
 obtain ⟨i0,i1,i2⟩:=h;have n1:¬ (b≠b):=fun h=>h rfl
 have n2:¬ ((0:Int)≠0):=fun h=>h rfl
 rw [P4.l1,if_pos (by decide),i0,Option.bind_some,if_neg n1];simp only [pnum,Option.bind_some];rw [if_neg n2,show IntKind.wrap .i64 (0+1)=1 by decide];rw [P4.l1,if_pos (by decide),i1,Option.bind_some,if_neg n1];simp only [pnum,Option.bind_some];rw [if_neg n2,show IntKind.wrap .i64 (1+1)=2 by decide];rw [P4.l1,if_pos (by decide),i2,Option.bind_some,if_neg n1];simp only [pnum,Option.bind_some];rw [if_neg n2,show IntKind.wrap .i64 (2+1)=3 by decide];rw [P4.l1,if_neg (by decide)]
theorem say_l3k (K:Nat)(hK:2000000000≤K){p:V3}{b:Bool}(h:Says K p b):P4.l1 K b K (p,0)=some (.inl (p,3)):=by
 have l3:=say_l3 K h (K-4);have e:K-4+4=K:=Nat.sub_add_cancel (Nat.le_trans (by decide) hK)
 rwa [e] at l3
theorem say_l2 (K:Nat)(hK:2000000000≤K)(g:Grammar)(cs:List Int){xs:List Int}(ho:StrOut g (xs,[],0)):∀ (k i m:Nat) (w:List Int) (p:V3),i+k=10→k<m→FedP g w p→w.length≤i→Byt w →
  ∃ w' p' j,P4.l0 K g cs m (p,strL w,(i:Int))=some (.inl (p',strL w',j))∧FedP g w' p'∧w'.length≤32∧Byt w'
 | 0,i,m,w,p,hi,hm,h,hl,hb=>by
  obtain ⟨m,rfl⟩:=sSx hm;rw [P4.l0]
  by_cases c:(i:Int)≤(cs.length:Int)
  ·obtain ⟨b,i1,i2⟩:=say_ref K hK ho h (by omega) hb;have l3:=say_l3k K hK i1;rw [if_pos c,if_pos (by omega),i2,Option.bind_some];simp only [l3,brk,Option.bind_some]
   by_cases c2:(i:Int)=(cs.length:Int)
   ·rw [if_pos c2];exact ⟨w,p,_,rfl,h,by omega,hb⟩
   ·rw [if_neg c2,if_pos (by omega)];exact ⟨w,p,_,rfl,h,by omega,hb⟩
  ·rw [if_neg c];exact ⟨w,p,_,rfl,h,by omega,hb⟩
 | k+1,i,m,w,p,hi,hm,h,hl,hb=>by
  obtain ⟨m,rfl⟩:=sSx hm;rw [P4.l0]
  by_cases c:(i:Int)≤(cs.length:Int)
  ·obtain ⟨b,i1,i2⟩:=say_ref K hK ho h (by omega) hb;have l3:=say_l3k K hK i1;have e1:IntKind.wrap .i64 ((i:Int)+1)=((i+1:Nat):Int):=by rw [wr (by omega) (by omega)];omega
   rw [if_pos c,if_pos (by omega),i2,Option.bind_some];rw [l3,brk_l];dsimp only
   by_cases c2:(i:Int)=(cs.length:Int)
   ·rw [if_pos c2];exact ⟨w,p,_,rfl,h,by omega,hb⟩
   ·rw [if_neg c2,if_neg (by omega),if_pos (by omega),if_pos (by omega),e1];generalize rd cs (i:Int)=v
    by_cases hv:0≤v∧v≤255
    ·obtain ⟨p',f1,f2⟩:=pfeed_ok K (by omega) h hv.1 hv.2 (by omega);rw [f1,Option.bind_some,if_pos hv.1,Option.bind_some];have ed:decide (v≤255)=true:=decide_eq_true hv.2;simp only [pnum,Option.bind_some,ed];rw [if_neg (by simp),if_neg (by simp),brk_l];have e3:((strL w).size:Int)+((strL ([IntKind.wrap .u8 v]:List Int)).size:Int)≤140737488355328:=by
      rw [strL_size,strL_size,List.length_singleton];omega
     have e2:strL w++strL ([IntKind.wrap .u8 v]:List Int)=strL (w++[v]):=by
      rw [wb (by omega) (by omega),strL_app]
     rw [if_pos trivial,if_pos e3,e2];exact say_l2 K hK g cs ho k (i+1) m (w++[v]) p' (by omega) (by omega) f2 (by rw [List.length_append,List.length_singleton];omega) (byt_snoc17 hb hv.1 hv.2)
    ·have ef:(if 0≤v then some (decide (v≤255)) else some false)=some false:=by
      by_cases c0:0≤v
      ·rw [if_pos c0,decide_eq_false (by omega)]
      ·rw [if_neg c0]
     rw [pfeed_bad K (by omega) h (by omega),Option.bind_some,ef];simp only [pnum,Option.bind_some];rw [if_neg (by simp),if_pos (by simp),if_neg (by simp),brk_l,if_neg (by simp)];exact say_l2 K hK g cs ho k (i+1) m w p (by omega) (by omega) h (by omega) hb
  ·rw [if_neg c];exact ⟨w,p,_,rfl,h,by omega,hb⟩
theorem BothSay_true (K:Nat)(hK:KW≤K)(g:Grammar)(hg:SzG g)(cs:List Int)(engine:Int):P4 K g cs engine=some true:=by
 have hK':140737488355328≤K:=hK;have e0:(⟨#[]⟩:ByteArray)=strL []:=rfl;unfold P4;rcases pnew_out K (by omega) g with ⟨s,h1,h2,h3⟩|⟨xs,p,h1,h2,h3⟩
 ·rw [h3,Option.bind_some];simp only;rw [if_pos (by decide),rNew_bad K (by omega) h1 h2,Option.bind_some];simp only;rw [if_pos (by decide),if_pos trivial,pawake K (by omega)];rfl
 ·have hf:=h1.lvf;obtain ⟨s',k1,k2⟩:=rStrata_spec K (by omega) g;have es:=k2.uniq h1;subst es;obtain ⟨ms,qs,n1,_,_⟩:=RT.NewTable_ok K (by omega) g xs hf k1 (⟨#[]⟩:ByteArray) (by decide);obtain ⟨w',p',j,r1,r2,r3,r4⟩:=say_l2 K (by omega) g cs h1 10 0 K [] p rfl (by omega) h3 (Nat.le_refl _) (fun v hv=>by cases hv);obtain ⟨b,⟨s0,s1,s2⟩,_⟩:=pin_spec K r2;rw [h2,Option.bind_some];simp only;rw [if_pos trivial,n1,Option.bind_some];simp only;rw [if_pos trivial,e0];erw [r1];simp only [brk,Option.bind_some]
  by_cases hv:0≤engine∧engine≤2
  ·have hi:W8 K p' engine=some (b,0,p'):=by
    obtain ⟨v0,v2⟩:=hv;have:engine=0∨engine=1∨engine=2:=by omega
    rcases this with rfl|rfl|rfl
    ·exact s0
    ·exact s1
    ·exact s2
   have ed:decide (engine≤2)=true:=decide_eq_true hv.2;rw [hi,Option.bind_some,if_pos hv.1,Option.bind_some,ed];simp only [pnum,Option.bind_some];rw [if_pos (by simp),if_pos trivial,plen K r2,Option.bind_some];simp only;rw [strL_size,if_pos rfl,pawake K (by omega)];rfl
  ·have ef:(if 0≤engine then some (decide (engine≤2)) else some false)=some false:=by
    by_cases c0:0≤engine
    ·rw [if_pos c0,decide_eq_false (by omega)]
    ·rw [if_neg c0]
   rw [pin_arg K (by omega),Option.bind_some,ef];simp only [pnum,Option.bind_some];rw [if_pos (by simp),if_neg (by simp),if_pos trivial,plen K r2,Option.bind_some];simp only;rw [strL_size,if_pos rfl,pawake K (by omega)];rfl
theorem BothSay_holds (g:Grammar)(cs:List Int)(engine:Int)(w:jh g){p q:Prop}(_:p)(_:q):∃ K,P4 K g cs engine=some true:=⟨KW,BothSay_true KW (Nat.le_refl _) g (SzG_wf w) cs engine⟩
end Go.Proofs.YtcoineklodmbnaaGreat

