import Derived.Test.YtpjhcllohagjoaaGreatW15
namespace Go.Proofs.YtpjhcllohagjoaaGreat
namespace RT
open S Go.Sort
set_option linter.unusedVariables false
set_option linter.unusedSimpArgs false
set_option linter.unusedSectionVars false
set_option maxRecDepth 100000
abbrev StN:=(List Int)×(List Int)×Int×(List ByteArray)×(List Rule)×ByteArray×Int×(List (List Int))×Int
def sN (g:Grammar) (w:ByteArray) (ns rs:List Int) (u:Int):StN:=(rs,ns,g.Start,g.Names,g.Rules,w,(wd w:Int),cjs g,u)
section
variable {K:Nat} {g:Grammar} {w:ByteArray} {xs:List Int} (hK:2000000000≤K) (hb:Bd g) (hn:g.Names.length≤64) (hw:w.size≤32) (hs:NmOk g) (hx:xs.length=g.Names.length) (hlv:LvS g.Names.length g.Rules (rd xs))
theorem n2_step (m:Nat) (p:List Int×Int) (ns rs:List Int) (u:Int):V1.l2 K g (xs,p) (m+1) (sN g w ns rs u)=if u≤(g.Names.length:Int) then (Q2 K (tb g w ns rs) xs u).bind fun r_45=>V1.l2 K g (xs,p) m (r_45.rests,r_45.names,r_45.G.Start,r_45.G.Names,r_45.G.Rules,r_45.W,r_45.wide,r_45.conj,IntKind.wrap .i64 (u+1)) else some (sN g w ns rs u):=rfl
include hK hb hn hw hs hx hlv in
theorem n2_spec (p:List Int×Int):∀ (d u m:Nat) (ns rs:List Int),u+d=g.Names.length+1→d<m→TI g w (rd xs) (u:Int) ns rs→∃ ns' rs',V1.l2 K g (xs,p) m (sN g w ns rs (u:Int))=some (sN g w ns' rs' ((g.Names.length:Int)+1))∧TI g w (rd xs) ((g.Names.length:Int)+1) ns' rs'
 | 0,u,m,ns,rs,hu,hm,hT=>by
  obtain ⟨m,rfl⟩:∃ q,m=q+1:=⟨m-1,by omega⟩
  have e:(u:Int)=(g.Names.length:Int)+1:=by omega
  rw [n2_step,if_neg (by omega),e]
  rw [e] at hT
  exact ⟨ns,rs,rfl,hT⟩
 | d+1,u,m,ns,rs,hu,hm,hT=>by
  obtain ⟨m,rfl⟩:∃ q,m=q+1:=⟨m-1,by omega⟩
  obtain ⟨ns1,rs1,g1,g2⟩:=fill_spec (K:=K) (by omega) hb hn hw hs hx hlv hT
  have e:(u:Int)+1=((u+1:Nat):Int):=by omega
  rw [n2_step,if_pos (by omega),g1,Option.bind_some,wr (a:=(u:Int)+1) (by omega) (by omega),e]
  rw [e] at g2
  exact n2_spec p d (u+1) m ns1 rs1 (by omega) (by omega) g2
end
theorem NewTable_ok (K:Nat) (hK:2000000000≤K) (g:Grammar) (xs:List Int) (hf:LvF g xs) (h1:M2 K g=some (xs,[],0)) (w:ByteArray) (hw:w.size≤32) :
  ∃ ms qs,V1 K g w=some (some (tb g w ms qs),0)∧ms.length=g.Names.length*wd w∧PMs g.Names.length g.Rules (rd xs) (wv w) w.size (NmS w ms):=by
 have hm:=hf.may
 have hb:=may_bd hm
 have hn:=hm.1.2.1
 have hs:=nm_ok hm
 have hxl:=hf.xl
 have hlv:=hf.lv
 have h7:=total_le hb
 have h256:=hb.1
 have h4:=wd_le hw
 have h5:g.Names.length*wd w≤64*1089:=Nat.mul_le_mul hn h4
 have h60:0≤total_ g*(wd w:Int):=Int.mul_nonneg h7.1 (by omega)
 have h6:total_ g*(wd w:Int)≤133120*1089:=Int.mul_le_mul h7.2 (by omega) (by omega) (by decide)
 have hlt:∀ y:Int,0≤y→y<g.Names.length→0≤rd xs y∧rd xs y≤(g.Names.length:Int)-1:=fun y a b=>⟨hf.l0 y a b,hf.l1 y a b⟩
 have h0:=nt_l0 K (by omega) g hb g.Rules.length 0 K [] 0 (by omega) (by omega) (by simp only [List.length_nil];omega) (Int.le_refl _) (by rw [List.drop_zero];show total_ g≤_;omega)
 rw [List.drop_zero,List.nil_append] at h0
 have h0':V1.l0 K g K (([]:List (List Int)),0,0)=some (cjs g,total_ g,(g.Rules.length:Int)):=h0
 have hzn:∀ x:Int,0≤x→x<g.Names.length→∀ i j,i≤j→j≤w.size→¬ NmS w (List.replicate (g.Names.length*wd w) (0:Int)) x i j:=fun x a b i j hij hj hx=>by
  have:=ni_lt (g:=g) (w:=w) a b (show i≤w.size by omega) hj
  unfold NmS at hx
  rw [rdi_rep _ this.1 this.2] at hx;omega
 have hT0:TI g w (rd xs) ((0:Nat):Int) (List.replicate (g.Names.length*wd w) 0) (List.replicate (total_ g*(wd w:Int)).toNat 0):=by
  refine ⟨by simp,by rw [List.length_replicate];omega,⟨fun x a b i j hij hj h=>(hzn x a b i j hij hj h).elim,fun x a b i j hij hj h=>(hzn x a b i j hij hj h).elim,fun r hr ht _=>?_,fun t M _ _ y a b _ i j hij hj hy=>(hzn y a b i j hij hj hy).elim⟩,fun r c k hp i j hij hj h=>?_,fun r hr ht=>?_⟩
  ·obtain ⟨⟨a,b⟩,_⟩:=hlv r hr
   have:=(hlt r.Head a b).1;omega
  ·have:=qi_lt (w:=w) hp (show i≤w.size by omega) hj
   rw [rdi_rep _ this.1 (by omega)] at h;omega
  ·obtain ⟨⟨a,b⟩,_⟩:=hlv _ (rd_mem (xs:=g.Rules) (i:=(r:Int)) (by omega) (by omega))
   have:=(hlt _ a b).1;omega
 obtain ⟨ns,rs,g1,g2⟩:=n2_spec hK hb hn hw hs hxl hlv ([],0) (g.Names.length+1) 0 K _ _ (by omega) (by omega) hT0
 obtain ⟨ms,qs,g3,g4,g5⟩:=rank_spec hK hb hn hw hs hlv g2 hlt
 refine ⟨ms,qs,?_,g4,?_⟩
 ·have e1:IntKind.wrap .i64 ((IntKind.wrap .i64 ((w.size:Int)+1))*(IntKind.wrap .i64 ((w.size:Int)+1)))=(wd w:Int):=by
   have e:((w.size:Int)+1)*((w.size:Int)+1)=(wd w:Int):=by rw [Int.natCast_mul];rfl
   rw [wr (a:=(w.size:Int)+1) (by omega) (by omega),e,wr (by omega) (by omega)]
  have e2:(g.Names.length:Int)*(wd w:Int)=((g.Names.length*wd w:Nat):Int):=(Int.natCast_mul _ _).symm
  have g1':V1.l2 K g (xs,[],0) K (List.replicate (total_ g*(wd w:Int)).toNat (0:Int),List.replicate (g.Names.length*wd w) (0:Int),g.Start,g.Names,g.Rules,w,(wd w:Int),cjs g,0)=some (sN g w ns rs ((g.Names.length:Int)+1)):=g1
  unfold V1
  rw [h1,Option.bind_some,if_neg (fun h=>h rfl),if_neg (by omega),h0',Option.bind_some]
  simp only
  rw [e1,e2,wr (a:=((g.Names.length*wd w:Nat):Int)) (by omega) (by omega),wr (a:=total_ g*(wd w:Int)) (by omega) (by omega),if_pos (by omega),if_pos (by omega),if_pos (by omega),if_pos (by omega),Int.toNat_natCast,g1',Option.bind_some]
  have g3':W1 K (⟨⟨g.Start,g.Names,g.Rules⟩,w,(wd w:Int),ns,cjs g,rs⟩:G0)=some (tb g w ms qs):=g3
  simp only [sN]
  rw [g3']
  rfl
 ·have hp:=g2.ri.done hlv fun y a b=>by have:=(hlt y a b).2;omega
  intro i j hij hj
  have h1:=(hp i j hij hj).env hlv (B:=NmS w ms) fun y y1 y2 a b _ h2 h3 _=>(g5 y y1 y2 a b h2 (by omega)).symm
  refine ⟨fun r hr hH=>?_,fun x x1 x2 hx=>?_,fun t M hM hc y y1 y2 hy hx=>?_⟩
  ·obtain ⟨a0,a1⟩:=(hlv r hr).1
   refine (g5 _ a0 a1 i j hij hj).2 (h1.cl r hr ?_)
   unfold HS at hH ⊢
   exact RuleS_mono hlv hr (fun z z1 z2 z3 a b _ h2 h3=>by
    unfold upd
    split
    ·exact g5 z z1 z2 i j hij hj
    ·exact Iff.rfl) (fun z z1 z2 z3 a b _ h2 h3 q=>by
    unfold upd at q ⊢
    split
    ·rename_i e;rw [if_pos e] at q;exact (g5 z z1 z2 i j hij hj).1 q
    ·rename_i e;rw [if_neg e] at q;exact q) hH
  ·obtain ⟨r,hr,e,hH⟩:=h1.su x x1 x2 ((g5 x x1 x2 i j hij hj).1 hx)
   refine ⟨r,hr,e,?_⟩
   unfold HS at hH ⊢
   exact RuleS_mono hlv hr (fun z z1 z2 z3 a b _ h2 h3=>by
    unfold upd
    split
    ·exact (g5 z z1 z2 i j hij hj).symm
    ·exact Iff.rfl) (fun z z1 z2 z3 a b _ h2 h3 q=>by
    unfold upd at q ⊢
    split
    ·rename_i e;rw [if_pos e] at q;exact (g5 z z1 z2 i j hij hj).2 q
    ·rename_i e;rw [if_neg e] at q;exact q) hH
  ·exact h1.mi t M (fun z z1 z2 z3=>(hM z z1 z2 z3).trans (g5 z z1 z2 i j hij hj)) hc y y1 y2 hy ((g5 y y1 y2 i j hij hj).1 hx)
end RT
open S
theorem rIn_spec (K:Nat) (hK:2000000000≤K) {g:Grammar} {xs:List Int} (ho:StrOut g (xs,[],0)) (w:ByteArray) (hw:w.size≤32) :
  ∃ b,L8 K g w=some b∧∃ N,PMs g.Names.length g.Rules (rd xs) (RT.wv w) w.size N∧(b=true↔N g.Start 0 w.size):=by
 obtain ⟨s,h1,h2⟩:=rStrata_spec K (by omega) g
 have e:=h2.uniq ho
 subst e
 have hf:=ho.lvf
 obtain ⟨ms,qs,g1,g2,g3⟩:=RT.NewTable_ok K hK g xs hf h1 w hw
 have hm:=hf.may
 unfold L8
 rw [g1,Option.bind_some]
 simp only
 have e0:(⟨⟨(RT.tb g w ms qs).G.Start,(RT.tb g w ms qs).G.Names,(RT.tb g w ms qs).G.Rules⟩,(RT.tb g w ms qs).W,(RT.tb g w ms qs).wide,(RT.tb g w ms qs).names,(RT.tb g w ms qs).conj,(RT.tb g w ms qs).rests⟩:G0)=RT.tb g w ms qs:=rfl
 have hh:=RT.t_has (K:=K) (rs:=qs) hm.1.2.1 hw g2 hm.2.1 hm.2.2.1 (Nat.zero_le w.size) (Nat.le_refl _)
 rw [Int.natCast_zero] at hh
 refine ⟨decide (0<rd ms (RT.ni w g.Start 0 w.size)),?_,RT.NmS w ms,g3,by rw [decide_eq_true_eq];exact Iff.rfl⟩
 simp [e0,hh]
theorem rNew_bad (K:Nat) (hK:200000≤K) {g:Grammar} {s:List Int×List Int×Int} (ho:StrOut g s) (h0:s.2.2≠0) (w:ByteArray):V1 K g w=some (none,1100):=by
 obtain ⟨s',h1,h2⟩:=rStrata_spec K (by omega) g
 have e:=h2.uniq ho
 subst e
 unfold V1
 rw [h1,Option.bind_some,if_pos h0]
end Go.Proofs.YtpjhcllohagjoaaGreat

namespace Go.Proofs.YtpjhcllohagjoaaGreat
open S
set_option linter.unusedVariables false
set_option linter.unusedSimpArgs false
set_option maxRecDepth 100000
theorem spoilT_spec (K:Nat) (hK:1000≤K) (xs:List ByteArray) (hl:xs.length≤64) (hs:∀ s ∈ xs,s.size≤1000):∃ r,G6 K xs=some r:=by
 have key:=rounds (σ:=List ByteArray×Int) (ρ:=List ByteArray×Int) (L:=G6.l0 K)
  (fun z=>∃ (ys:List ByteArray) (i:Nat),z=(ys,(i:Int))∧i≤xs.length∧ys.length=xs.length∧∀ j:Nat,i≤j→rd ys (j:Int)=rd xs (j:Int))
  (fun z=>xs.length-z.2.toNat) (fun _=>True) ?_ K (xs,0) ⟨xs,0,rfl,Nat.zero_le _,rfl,fun _ _=>rfl⟩ (by simp;omega)
 ·obtain ⟨ρ,e,_⟩:=key
  unfold G6
  rw [e]
  exact ⟨_,rfl⟩
 ·rintro z m ⟨ys,i,rfl,k1,k2,k3⟩
  simp only [G6.l0]
  by_cases h:i<xs.length
  ·have h1:=hs _ (rd_mem (xs:=xs) (i:=(i:Int)) (by omega) (by omega))
   have e1:(⟨#[126]⟩:ByteArray).size=1:=rfl
   rw [if_pos (by omega),if_pos (by omega),k3 i (Nat.le_refl _),if_pos (by rw [e1];omega),wr (a:=(i:Int)+1) (by omega) (by omega)]
   refine .inr ⟨_,⟨_,i+1,rfl,h,by rw [List.length_set];exact k2,fun j hj=>?_⟩,by simp;omega,rfl⟩
   rw [Int.toNat_natCast,rd_set _ (by omega),if_neg (by omega)]
   exact k3 j (by omega)
  ·rw [if_neg (by omega)];exact .inl ⟨_,rfl,trivial⟩
theorem spoilS_spec (K:Nat) (hK:1000≤K) (xs:List Symbol) (hl:xs.length≤64):∃ r,m6 K xs=some r:=by
 have key:=rounds (σ:=List Symbol×Int) (ρ:=List Symbol×Int) (L:=m6.l0 K)
  (fun z=>∃ (ys:List Symbol) (i:Nat),z=(ys,(i:Int))∧i≤xs.length∧ys.length=xs.length)
  (fun z=>xs.length-z.2.toNat) (fun _=>True) ?_ K (xs,0) ⟨xs,0,rfl,Nat.zero_le _,rfl⟩ (by simp;omega)
 ·obtain ⟨ρ,e,_⟩:=key
  unfold m6
  rw [e]
  exact ⟨_,rfl⟩
 ·rintro z m ⟨ys,i,rfl,k1,k2⟩
  simp only [m6.l0]
  by_cases h:i<xs.length
  ·rw [if_pos (by omega),if_pos (by omega),wr (a:=(i:Int)+1) (by omega) (by omega)]
   exact .inr ⟨_,⟨_,i+1,rfl,h,by rw [List.length_set];exact k2⟩,by simp;omega,rfl⟩
  ·rw [if_neg (by omega)];exact .inl ⟨_,rfl,trivial⟩
def Sp9 (rs xs:List Rule) (i:Nat):Prop:=xs.length=rs.length∧∀ r:Nat,i≤r→rd xs (r:Int)=rd rs (r:Int)
theorem spoil_l1 (K:Nat) (hK:1000≤K) (rs:List Rule) (hb:∀ r ∈ rs,RuleBd r) (h256:rs.length≤256) (i:Nat) (hi:i<rs.length) (xs:List Rule) (hx:Sp9 rs xs i):∃ ys k,P3.l1 K (i:Int) K (xs,0)=some (ys,k)∧Sp9 rs ys (i+1):=by
 have hbi:=hb _ (rd_mem (xs:=rs) (i:=(i:Int)) (by omega) (by omega))
 have h8:=hbi.1
 have key:=rounds (σ:=List Rule×Int) (ρ:=List Rule×Int) (L:=P3.l1 K (i:Int))
  (fun z=>∃ (ys:List Rule) (j:Nat),z=(ys,(j:Int))∧j≤(rd rs (i:Int)).Conj.length∧Sp9 rs ys (i+1)∧(rd ys (i:Int)).Conj.length=(rd rs (i:Int)).Conj.length∧∀ q:Nat,j≤q→rd (rd ys (i:Int)).Conj (q:Int)=rd (rd rs (i:Int)).Conj (q:Int))
  (fun z=>(rd rs (i:Int)).Conj.length-z.2.toNat) (fun ρ=>∃ ys k,ρ=(ys,k)∧Sp9 rs ys (i+1)) ?_ K (xs,0) ⟨xs,0,rfl,Nat.zero_le _,⟨hx.1,fun r hr=>hx.2 r (by omega)⟩,by rw [hx.2 i (Nat.le_refl _)],fun q _=>by rw [hx.2 i (Nat.le_refl _)]⟩ (by simp;omega)
 ·obtain ⟨ρ,e,ys,k,rfl,h⟩:=key
  exact ⟨ys,k,e,h⟩
 ·rintro z m ⟨ys,j,rfl,k1,k2,k3,k4⟩
  have hyl:=k2.1
  simp only [P3.l1]
  rw [if_pos (by omega),if_pos (by omega)]
  by_cases h:j<(rd rs (i:Int)).Conj.length
  ·have hsl:=hbi.2 _ (rd_mem (xs:=(rd rs (i:Int)).Conj) (i:=(j:Int)) (by omega) (by omega))
   obtain ⟨r,hr⟩:=spoilS_spec K hK (rd (rd ys (i:Int)).Conj (j:Int)).Seq (by rw [k4 j (Nat.le_refl _)];exact hsl)
   rw [if_pos (by omega),if_pos (by omega),hr,Option.bind_some,Option.bind_some,Int.toNat_natCast,Int.toNat_natCast,List.length_set,if_pos (by omega)]
   have e1:∀ R:Rule,rd (ys.set i R) (i:Int)=R:=fun R=>by rw [rd_set _ (by omega),if_pos rfl]
   simp only [e1,List.length_set]
   rw [if_pos (by omega),wr (a:=(j:Int)+1) (by omega) (by omega)]
   refine .inr ⟨_,⟨_,j+1,rfl,h,⟨by rw [List.length_set,List.length_set];exact hyl,fun r' hr'=>?_⟩,?_,fun q hq=>?_⟩,by simp;omega,rfl⟩
   ·rw [rd_set _ (by rw [List.length_set];omega),if_neg (by omega),rd_set _ (by omega),if_neg (by omega)]
    exact k2.2 r' hr'
   ·rw [rd_set _ (by rw [List.length_set];omega),if_pos rfl]
    simp only [List.length_set];exact k3
   ·rw [rd_set _ (by rw [List.length_set];omega),if_pos rfl]
    simp only
    rw [rd_set _ (by rw [List.length_set];omega),if_neg (by omega),rd_set _ (by omega),if_neg (by omega)]
    exact k4 q (by omega)
  ·rw [if_neg (by omega)];exact .inl ⟨_,rfl,_,_,rfl,k2⟩
theorem Spoil_spec (K:Nat) (hK:1000≤K) (g:Grammar) (hm:mayP g) (hn:∀ s ∈ g.Names,s.size≤1000):∃ r,P3 K g=some r:=by
 have hb:=may_bd hm
 have h256:=hb.1
 obtain ⟨r1,h1⟩:=spoilT_spec K hK g.Names hm.1.2.1 hn
 have key:=rounds (σ:=List Rule×Int) (ρ:=List Rule×Int) (L:=P3.l0 K)
  (fun z=>∃ (ys:List Rule) (i:Nat),z=(ys,(i:Int))∧i≤g.Rules.length∧Sp9 g.Rules ys i)
  (fun z=>g.Rules.length-z.2.toNat) (fun _=>True) ?_ K (g.Rules,0) ⟨g.Rules,0,rfl,Nat.zero_le _,rfl,fun _ _=>rfl⟩ (by simp;omega)
 ·obtain ⟨ρ,e,_⟩:=key
  unfold P3
  rw [h1,Option.bind_some,e]
  exact ⟨_,rfl⟩
 ·rintro z m ⟨ys,i,rfl,k1,k2⟩
  have hyl:=k2.1
  simp only [P3.l0]
  by_cases h:i<g.Rules.length
  ·obtain ⟨zs,k,e1,e2⟩:=spoil_l1 K hK g.Rules hb.2 h256 i h ys k2
   have hzl:=e2.1
   rw [if_pos (by omega),e1,Option.bind_some]
   simp only
   rw [if_pos (by omega),if_pos (by omega),wr (a:=(i:Int)+1) (by omega) (by omega)]
   refine .inr ⟨_,⟨_,i+1,rfl,h,by rw [List.length_set];exact hzl,fun r hr=>?_⟩,by simp;omega,rfl⟩
   rw [Int.toNat_natCast,rd_set _ (by omega),if_neg (by omega)]
   exact e2.2 r hr
  ·rw [if_neg (by omega)];exact .inl ⟨_,rfl,trivial⟩
end Go.Proofs.YtpjhcllohagjoaaGreat

namespace Go.Proofs.YtpjhcllohagjoaaGreat
open S
set_option linter.unusedVariables false
set_option linter.unusedSimpArgs false
set_option maxRecDepth 100000
theorem in_ref (K:Nat) (hK:2000000000≤K) {g:Grammar} {xs:List Int} (ho:StrOut g (xs,[],0)) {w:List Int} {e:J0} (he:EngC g xs w e) (hw:w.length≤32) (hb:Byt w):∃ b,L6 K e=some b∧L8 K g (strL w)=some b:=by
 obtain ⟨b,h1,M,h2,h3⟩:=cIn_spec K he
 obtain ⟨b',h4,N,h5,h6⟩:=rIn_spec K hK ho (strL w) (by rw [strL_size];exact hw)
 have hf:=ho.lvf
 have ew:wf w=RT.wv (strL w):=by
  funext k
  show rd w (k:Int)=bt (strL w) (k:Int)
  rw [bt_strL hb]
 rw [ew] at h2
 rw [strL_size] at h5 h6
 have hm:=hf.may
 have:=PMs.uniq hf.lv hf.l0 h2 h5 0 w.length (Nat.zero_le _) (Nat.le_refl _) g.Start hm.2.1 hm.2.2.1
 have e:b=b':=by
  rw [Bool.eq_iff_iff,h3,h6];exact this
 subst e
 exact ⟨b,h1,h4⟩
theorem feed_eng (K:Nat) (hK:1000000≤K) {g:Grammar} {xs w:List Int} {e:J0} (h:EngC g xs w e) (c:Int) :
  (c<0∨255<c)∧P5 K e c=some (1600,e)∨(0≤c∧c≤255)∧(w.length=32∨∃ e',P5 K e c=some (0,e')∧EngC g xs (w++[c]) e'):=by
 rcases cFeed_spec K (by omega) h c with h1 | ⟨h1,h2,_⟩ | ⟨h1,_,e',h2,h3⟩
 ·exact .inl h1
 ·exact .inr ⟨h1,.inl h2⟩
 ·exact .inr ⟨h1,.inr ⟨e',h2,h3⟩⟩
theorem byt_snoc {w:List Int} {c:Int} (h:Byt w) (h0:0≤c) (h1:c≤255):Byt (w++[c]):=fun v hv=>by
 rcases List.mem_append.1 hv with hv | hv
 ·exact h v hv
 ·rw [List.mem_singleton] at hv;omega
theorem reads_l1 (K:Nat) (hK:2000000000≤K) (g:Grammar) (cs:List Int) {xs:List Int} (ho:StrOut g (xs,[],0)):∀ (k i m:Nat) (w:List Int) (x:J0),i+k=12→k<m→EngC g xs w x→w.length≤i→Byt w →
  ∃ w' x' j,Q3.l1 K g cs m (x,strL w,(i:Int))=some (.inl (x',strL w',j))∧EngC g xs w' x'∧w'.length≤32∧Byt w'
 | 0,i,m,w,x,hi,hm,h,hl,hb=>by
  obtain ⟨m,rfl⟩:∃ q,m=q+1:=⟨m-1,by omega⟩
  simp only [Q3.l1]
  by_cases c:(i:Int)<(cs.length:Int)
  ·rw [if_pos c,if_neg (by omega)];exact ⟨w,x,_,rfl,h,by omega,hb⟩
  ·rw [if_neg c];exact ⟨w,x,_,rfl,h,by omega,hb⟩
 | k+1,i,m,w,x,hi,hm,h,hl,hb=>by
  obtain ⟨m,rfl⟩:∃ q,m=q+1:=⟨m-1,by omega⟩
  simp only [Q3.l1]
  by_cases c:(i:Int)<(cs.length:Int)
  ·obtain ⟨b,i1,i2⟩:=in_ref K hK ho h (by omega) hb
   have e1:IntKind.wrap .i64 ((i:Int)+1)=((i+1:Nat):Int):=by rw [wr (by omega) (by omega)];omega
   rw [if_pos c,if_pos (by omega),i1,Option.bind_some,i2,Option.bind_some,if_neg (fun h=>h rfl),cLen_spec K h,Option.bind_some,strL_size,if_neg (fun h=>h rfl),if_pos (by omega),e1]
   generalize rd cs (i:Int)=v
   rcases feed_eng K (by omega) h v with ⟨hv,hf⟩ | ⟨hv,hf | ⟨e',hf,he⟩⟩
   ·rw [hf,Option.bind_some]
    simp only
    by_cases c0:v<0
    ·rw [if_pos c0,num_eq,Option.bind_some,if_neg (fun h=>h rfl)]
     exact reads_l1 K hK g cs ho k (i+1) m w x (by omega) (by omega) h (by omega) hb
    ·rw [if_neg c0,if_pos (by omega),num_eq,Option.bind_some,if_neg (fun h=>h rfl)]
     exact reads_l1 K hK g cs ho k (i+1) m w x (by omega) (by omega) h (by omega) hb
   ·omega
   ·rw [hf,Option.bind_some]
    simp only
    rw [if_neg (by omega),if_neg (by omega),strL_size,List.length_singleton,if_pos (by omega),num_eq,Option.bind_some,if_neg (fun h=>h rfl),wb (by omega) (by omega),strL_app]
    exact reads_l1 K hK g cs ho k (i+1) m (w++[v]) e' (by omega) (by omega) he (by rw [List.length_append,List.length_singleton];omega) (byt_snoc hb (by omega) (by omega))
  ·rw [if_neg c];exact ⟨w,x,_,rfl,h,by omega,hb⟩
theorem Reads_true (K:Nat) (hK:KW≤K) (g:Grammar) (hg:SzG g) (cs:List Int):Q3 K g cs=some true:=by
 have hK':140737488355328≤K:=hK
 have eg:(⟨g.Start,g.Names,g.Rules⟩:Grammar)=g:=rfl
 have e0:(⟨#[]⟩:ByteArray)=strL []:=rfl
 unfold Q3
 rw [Copy_spec K hK g hg,Option.bind_some,eg]
 rcases cNew_spec K (by omega) g with ⟨s,h1,h2,h3⟩ | ⟨xs,e,h1,h2,h3⟩
 ·rw [h3,Option.bind_some]
  simp only
  rw [rNew_bad K (by omega) h1 h2,Option.bind_some]
  simp only
  rw [SameGrammar_refl K hK g hg,Option.bind_some,if_neg (by simp),if_pos (by decide),num_eq,Option.bind_some,if_pos rfl,awake_true K (by omega)]
  rfl
 ·have hf:=h1.lvf
  obtain ⟨s',k1,k2⟩:=rStrata_spec K (by omega) g
  have es:=k2.uniq h1
  subst es
  obtain ⟨ms,qs,n1,_,_⟩:=RT.NewTable_ok K (by omega) g xs hf k1 (⟨#[]⟩:ByteArray) (by decide)
  obtain ⟨sp,hsp⟩:=Spoil_spec K (by omega) g hf.may (fun s hs=>by have:=(hf.may.1.2.2.1 s hs).2.1;omega)
  obtain ⟨w',x',j,r1,r2,r3,r4⟩:=reads_l1 K (by omega) g cs h1 12 0 K [] e rfl (by omega) h3 (Nat.le_refl _) (fun v hv=>by cases hv)
  obtain ⟨b,i1,i2⟩:=in_ref K (by omega) h1 r2 r3 r4
  rw [h2,Option.bind_some]
  simp only
  rw [n1,Option.bind_some]
  simp only
  rw [SameGrammar_refl K hK g hg,Option.bind_some,if_neg (by simp),if_neg (fun h=>h rfl),num_eq,Option.bind_some,if_neg (fun h=>h rfl),hsp,Option.bind_some,e0]
  erw [r1]
  simp only [brk,Option.bind_some]
  rw [i1,Option.bind_some,i2,Option.bind_some,if_pos rfl,cLen_spec K r2,Option.bind_some,strL_size,if_pos rfl,awake_true K (by omega)]
  rfl
theorem ChartReads_holds (g:Grammar) (cs:List Int) (w:ke g) {p:Prop} (_:p):∃ K,Q3 K g cs=some true:=⟨KW,Reads_true KW (Nat.le_refl _) g (SzG_wf w) cs⟩
end Go.Proofs.YtpjhcllohagjoaaGreat

