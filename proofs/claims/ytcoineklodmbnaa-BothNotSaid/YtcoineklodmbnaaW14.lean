import Derived.Test.YtcoineklodmbnaaW13
namespace Go.Proofs.Ytcoineklodmbnaa
open S
set_option linter.unusedVariables false
set_option linter.unusedSimpArgs false
set_option maxRecDepth 100000
def newR (n:Nat) (st:Int):Rule:=⟨(n:Int),([(⟨true,([(⟨st,(0:Int),(0:Int)⟩:Symbol)]:List Symbol)⟩:Conjunct)]:List Conjunct)⟩
def overG (g:Grammar):Grammar:=⟨(g.Names.length:Int),g.Names++([(⟨#[110,48,116]⟩:ByteArray)]:List ByteArray),g.Rules++[newR g.Names.length g.Start]⟩
theorem new_lv {n:Nat} {st:Int} {rs:List Rule} {lv:Int→Int} (h0:0≤st) (hl:LvS (n+1) (rs++[newR n st]) lv):lv st+1≤lv (n:Int):=by
 have:=((hl (newR n st) (List.mem_append_right _ (List.mem_singleton_self _))).2 ⟨true,[⟨st,0,0⟩]⟩ (List.mem_singleton_self _) ⟨st,0,0⟩ (List.mem_singleton_self _) h0).2
 simpa [newR] using this
theorem PMs.over {n:Nat} {st:Int} {rs:List Rule} {lv:Int→Int} {w:Nat→Int} {L:Nat} {N:Sp} (h0:0≤st) (h1:st<n) (hl':LvS (n+1) (rs++[newR n st]) lv) (hl:LvS n rs lv) (hp:PMs (n+1) (rs++[newR n st]) lv w L N):PMs n rs lv w L N:=fun i j hij hj=>by
 have h:=hp i j hij hj
 refine ⟨fun r hr=>h.cl r (List.mem_append_left _ hr),fun x x0 x1 hx=>?_,fun t M hM hc y y0 y1 hy hx=>?_⟩
 ·obtain ⟨r,hr,e,hH⟩:=h.su x x0 (by omega) hx
  rcases List.mem_append.1 hr with hr | hr
  ·exact ⟨r,hr,e,hH⟩
  ·rw [List.mem_singleton] at hr
   subst hr
   have:(n:Int)=x:=e
   omega
 ·have key:=h.mi t (fun z=>if z=(n:Int) then N z i j else M z) (fun z z0 z1 z2=>?_) (fun r hr ht hH=>?_) y y0 (by omega) hy hx
  ·rw [if_neg (by omega)] at key;exact key
  ·by_cases e:z=(n:Int)
   ·rw [if_pos e]
   ·rw [if_neg e];exact hM z z0 (by omega) z2
  ·rcases List.mem_append.1 hr with hr | hr
   ·have hd:=(hl r hr).1
    rw [if_neg (by omega)]
    refine hc r hr ht ?_
    exact (HS_lvl hl N w i j).mono r hr _ _ (fun z z0 z1 _=>by rw [if_neg (by omega)]) (fun z z0 z1 _ hz=>by rwa [if_neg (by omega)] at hz) hH
   ·rw [List.mem_singleton] at hr
    subst hr
    have hv:=new_lv h0 hl'
    have ht':lv (n:Int)=t:=ht
    show (if (n:Int)=(n:Int) then N (n:Int) i j else M (n:Int))
    rw [if_pos rfl]
    refine hp.cl (r:=newR n st) (List.mem_append_right _ (List.mem_singleton_self _)) hij hj ?_
    have hH':RuleS (upd N i j fun z=>if z=(n:Int) then N z i j else M z) w (newR n st) i j:=hH
    unfold newR at hH' ⊢
    rw [Rule1n,Seq_name1 h0 hij,upd_at,if_neg (by omega)] at hH'
    rw [Rule1n,Seq_name1 h0 hij]
    exact fun hn=>hH' ((hM st h0 h1 (by omega)).2 hn)
theorem not_says (K:Nat) {g:Grammar} {w:List Int} {x y:Q2} (hx:FedP g w x) (hy:FedP (overG g) w y):∃ a,Says K x a∧Says K y (!a):=by
 obtain ⟨a,sa,xs,M,fx,mx,ea⟩:=pin_spec K hx
 obtain ⟨b,sb,ys,N,fy,my,eb⟩:=pin_spec K hy
 refine ⟨a,sa,?_⟩
 have s0:=fx.may.2.1
 have s1:=fx.may.2.2.1
 have hn:(overG g).Names.length=g.Names.length+1:=by simp [overG]
 have hl':LvS (g.Names.length+1) (g.Rules++[newR g.Names.length g.Start]) (rd ys):=by have:=fy.lv;rw [hn] at this;exact this
 have hl:LvS g.Names.length g.Rules (rd ys):=fun r hr=>⟨(fx.lv r hr).1,fun c hc s hs h0=>⟨((fx.lv r hr).2 c hc s hs h0).1,((hl' r (List.mem_append_left _ hr)).2 c hc s hs h0).2⟩⟩
 have my':PMs (g.Names.length+1) (g.Rules++[newR g.Names.length g.Start]) (rd ys) (fun k=>rd w (k:Int)) w.length N:=by have:=my;rw [hn] at this;exact this
 have mr:=PMs.over s0 s1 hl' hl my'
 have l0:∀ y:Int,0≤y→y<g.Names.length→0≤rd ys y:=fun y h0 h1=>fy.l0 y h0 (by rw [hn];omega)
 have e:=PMs.two fx.lv hl fx.l0 l0 mx mr 0 w.length (Nat.zero_le _) (Nat.le_refl _) g.Start s0 s1
 have q:N (overG g).Start 0 w.length↔¬ N g.Start 0 w.length:=by
  show N (g.Names.length:Int) 0 w.length↔_
  constructor
  ·intro hN
   obtain ⟨r,hr,er,hR⟩:=my'.su (x:=(g.Names.length:Int)) (by omega) (by omega) (Nat.zero_le _) (Nat.le_refl _) hN
   rcases List.mem_append.1 hr with hr | hr
   ·have:=(fx.lv r hr).1;omega
   ·rw [List.mem_singleton] at hr
    subst hr
    unfold newR at hR
    rwa [Rule1n,Seq_name1 s0 (Nat.zero_le _)] at hR
  ·intro hN
   refine my'.cl (r:=newR g.Names.length g.Start) (List.mem_append_right _ (List.mem_singleton_self _)) (Nat.zero_le _) (Nat.le_refl _) ?_
   unfold newR
   rwa [Rule1n,Seq_name1 s0 (Nat.zero_le _)]
 have hb:b = !a:=by
  rw [q,← e,← ea] at eb
  cases a
  ·exact eb.2 (by decide)
  ·have:¬ b=true:=fun h=>eb.1 h rfl
   simpa using this
 rw [← hb];exact sb
theorem not_l3 (K:Nat) (hK:1000000≤K) (g:Grammar) (s:ByteArray):∀ (k i m:Nat) (x y:Q2),i+k=9→k<m→FedP g (bs s i) x→FedP (overG g) (bs s i) y →
  ∃ r,j3.l3 K s m (y,x,(i:Int))=some (.inl r)
 | 0,i,m,x,y,hk,hm,hx,hy=>by
  obtain ⟨m,rfl⟩:∃ q,m=q+1:=⟨m-1,by omega⟩
  rw [j3.l3]
  by_cases c:(i:Int)≤(s.size:Int)
  ·rw [if_pos c,if_neg (by omega)];exact ⟨_,rfl⟩
  ·rw [if_neg c];exact ⟨_,rfl⟩
 | k+1,i,m,x,y,hk,hm,hx,hy=>by
  obtain ⟨m,rfl⟩:∃ q,m=q+1:=⟨m-1,by omega⟩
  have hb:=bt_lo s (i:Int)
  obtain ⟨a,⟨_,_,i2⟩,_,_,j2⟩:=not_says K hx hy
  rw [j3.l3]
  by_cases c:(i:Int)≤(s.size:Int)
  ·rw [if_pos c,if_pos (by omega),i2,Option.bind_some]
   simp only [j2,Option.bind_some,pnum]
   rw [if_neg (show ¬ ((0:Int)≠0) by decide),if_neg (show ¬ ((0:Int)≠0) by decide),if_neg (show ¬ (a = !a) by cases a <;> decide)]
   by_cases c2:(i:Int)<(s.size:Int)
   ·by_cases c3:(i:Int)<8
    ·obtain ⟨x',f1,f2⟩:=pfeed_ok K hK hx (c:=bt s (i:Int)) (by omega) (by omega) (by rw [bs_len];omega)
     obtain ⟨y',f3,f4⟩:=pfeed_ok K hK hy (c:=bt s (i:Int)) (by omega) (by omega) (by rw [bs_len];omega)
     rw [← bs_succ] at f2 f4
     rw [if_pos c2,if_pos c3,if_pos (by omega),wr (a:=bt s (i:Int)) (by omega) (by omega),f1,Option.bind_some,f3,Option.bind_some,wr (by omega) (by omega)]
     exact not_l3 K hK g s k (i+1) m x' y' (by omega) (by omega) f2 f4
    ·rw [if_pos c2,if_neg c3,wr (by omega) (by omega)]
     obtain ⟨m,rfl⟩:∃ q,m=q+1:=⟨m-1,by omega⟩
     rw [j3.l3]
     by_cases c4:(i:Int)+1≤(s.size:Int)
     ·rw [if_pos c4,if_neg (by omega)];exact ⟨_,rfl⟩
     ·rw [if_neg c4];exact ⟨_,rfl⟩
   ·rw [if_neg c2,wr (by omega) (by omega)]
    obtain ⟨m,rfl⟩:∃ q,m=q+1:=⟨m-1,by omega⟩
    rw [j3.l3]
    rw [if_neg (by omega)];exact ⟨_,rfl⟩
  ·rw [if_neg c];exact ⟨_,rfl⟩
theorem BothNot_true (K:Nat) (hK:KW≤K) (g:Grammar) (hg:SzG g) (s:ByteArray):j3 K g s=some true:=by
 have hK':1000000≤K:=by unfold KW at hK;omega
 unfold j3
 rw [pawake K hK',Option.bind_some,if_neg (by simp)]
 rcases pnew_spec K hK' g with h | ⟨hm,p,h1,h2⟩
 ·rw [h,Option.bind_some];simp [pnum]
 ·rw [h1,Option.bind_some]
  simp only [pnum,Option.bind_some]
  rw [if_neg (by simp)]
  by_cases c1:64≤(g.Names.length:Int)
  ·rw [if_pos c1];simp
  rw [if_neg c1]
  by_cases c2:256≤(g.Rules.length:Int)
  ·rw [if_pos c2];simp
  rw [if_neg c2,Copy_spec K hK g hg,Option.bind_some,if_pos (by simp only [List.length_singleton];omega),if_pos (by simp only [List.length_singleton];omega)]
  show (P7 K (overG g)).bind _=_
  rcases pnew_spec K hK' (overG g) with h | ⟨_,q,h3,h4⟩
  ·rw [h,Option.bind_some];simp
  ·rw [h3,Option.bind_some]
   simp only []
   rw [if_neg (by simp)]
   obtain ⟨r,hr⟩:=not_l3 K hK' g s 9 0 K p q rfl (by omega) h2 h4
   erw [hr]
   rfl
theorem BothNot_holds (g:Grammar) (s:ByteArray) (w:Gd g) {p:Prop} (_:p):∃ K,j3 K g s=some true:=⟨KW,BothNot_true KW (Nat.le_refl _) g (SzG_wf w) s⟩
end Go.Proofs.Ytcoineklodmbnaa

