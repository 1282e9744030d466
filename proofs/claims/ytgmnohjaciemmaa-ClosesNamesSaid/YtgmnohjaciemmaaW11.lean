import Derived.Test.YtgmnohjaciemmaaW10
namespace Go.Proofs.Ytgmnohjaciemmaa
open S Go.Sort
set_option linter.unusedVariables false
set_option linter.unusedSimpArgs false
set_option maxRecDepth 100000
theorem stand_l1 (K:Nat) (g:Grammar) (ps:List Place) (xs:List Symbol) (i:Nat) (hi:i<ps.length) (hok:okP g (rd ps (i:Int))) (hin:inner g (rd ps (i:Int))) (hl:xs.length≤300000) (hK:1000000≤K) :
  ∃ b:Bool,L3.l1 K g ps xs i K (false,0)=some (b,(xs.length:Int))∧(b=true↔symAt g (rd ps (i:Int)) ∈ xs):=by
 obtain ⟨b,h1,h2⟩:=invLoop (n:=xs.length) (L3.l1 K g ps xs i) (fun j b=>b=true↔∃ q:Nat,q<j∧rd xs (q:Int)=symAt g (rd ps (i:Int))) (fun m b j hj hI=>by
  simp only [L3.l1]
  rw [if_pos (by omega)]
  cases b with
  | true =>
   refine ⟨true,by rw [if_pos rfl,wr (a:=(j:Int)+1) (by omega) (by omega)],⟨fun _=>?_,fun _=>rfl⟩⟩
   obtain ⟨q,h1,h2⟩:=hI.1 rfl
   exact ⟨q,by omega,h2⟩
  | false =>
   refine ⟨decide (rd xs (j:Int)=symAt g (rd ps (i:Int))),by rw [if_neg (by decide),if_pos (Int.natCast_nonneg j),if_pos hok.2.2.2.2.1,if_pos hin,wr (a:=(j:Int)+1) (by omega) (by omega)],?_⟩
   rw [decide_eq_true_iff]
   constructor
   ·intro h;exact ⟨j,by omega,h⟩
   ·rintro ⟨q,h1,h2⟩
    rcases Nat.lt_succ_iff_lt_or_eq.1 h1 with h1 | rfl
    ·have:=hI.2 ⟨q,h1,h2⟩;cases this
    ·exact h2) (fun m s=>by simp only [L3.l1];rw [if_neg (by omega)]) K (by omega) false ⟨fun h=>(by cases h),fun ⟨q,h,_⟩=>absurd h (Nat.not_lt_zero _)⟩
 refine ⟨b,h1,h2.trans ?_⟩
 rw [mem_rd]
 exact ⟨fun ⟨q,a,b⟩=>⟨q,a,b.symm⟩,fun ⟨q,a,b⟩=>⟨q,a,b.symm⟩⟩
theorem stand_spec (K:Nat) (hK:1000000≤K) {g:Grammar} (hg:Bd g) {ps:List Place} (hp:RL g ps):L3 K g ps=some (syms g ps):=by
 have hl:=hp.len hg
 obtain ⟨xs,h1,h2⟩:=invLoop (n:=ps.length) (L3.l0 K g ps) (fun j xs=>xs=syms g (ps.take j)) (fun m xs j hj hI=>by
  subst hI
  have hok:=hp.2 _ (mem_rd.2 ⟨j,hj,rfl⟩)
  have hsl:=syms_len g (ps.take j)
  rw [List.length_take] at hsl
  obtain ⟨q1,q2,q3,q4,q5,q6⟩:=hok
  simp only [L3.l0]
  rw [if_pos (by omega),if_pos (Int.natCast_nonneg j),if_pos q1,if_pos q2,if_pos q3,if_pos q4,take_rd hj,syms_snoc,wr (a:=(j:Int)+1) (by omega) (by omega)]
  by_cases hin:inner g (rd ps (j:Int))
  ·obtain ⟨b,e1,e2⟩:=stand_l1 K g ps (syms g (ps.take j)) j hj (hp.2 _ (mem_rd.2 ⟨j,hj,rfl⟩)) hin (by omega) hK
   rw [if_neg (show ¬ (rd ps (j:Int)).Pos=((seqOf g (rd ps (j:Int))).length:Int) from fun e=>by unfold inner at hin;omega),e1,Option.bind_some,show symS g (syms g (ps.take j)) (rd ps (j:Int))=(if symAt g (rd ps (j:Int)) ∈ syms g (ps.take j) then syms g (ps.take j) else syms g (ps.take j)++[symAt g (rd ps (j:Int))]) from if_pos hin]
   dsimp only
   cases b with
   | true =>
    rw [if_neg (by decide),if_pos (e2.1 rfl)]
    exact ⟨_,rfl,rfl⟩
   | false =>
    rw [if_pos (by decide),if_pos q5,if_pos hin,if_pos (by simp only [List.length_cons,List.length_nil];omega),if_neg (fun h=>by have:=e2.2 h;cases this)]
    exact ⟨_,rfl,rfl⟩
  ·rw [if_pos (show (rd ps (j:Int)).Pos=((seqOf g (rd ps (j:Int))).length:Int) by unfold inner at hin;omega),show symS g (syms g (ps.take j)) (rd ps (j:Int))=syms g (ps.take j) from if_neg hin]
   exact ⟨_,rfl,rfl⟩) (fun m s=>by simp only [L3.l0];rw [if_neg (by omega)]) K (by omega) [] (by simp [syms])
 rw [List.take_length] at h2
 unfold L3
 rw [h1,h2];rfl
theorem moved_spec (K:Nat) (hK:KW≤K) {g:Grammar} (hm:mayP g) {ps:List Place} (hp:RL g ps) (x:Symbol):G5 K g ps x=some (clos g (onX g ps x)):=by
 have hg:=may_bd hm
 have hl:=hp.len hg
 have hK':=hK
 unfold KW at hK'
 obtain ⟨xs,h1,h2⟩:=invLoop (n:=ps.length) (G5.l0 K g ps x) (fun j xs=>xs=onX g (ps.take j) x) (fun m xs j hj hI=>by
  subst hI
  have hok:=hp.2 _ (mem_rd.2 ⟨j,hj,rfl⟩)
  have hxl:=onX_len g (ps.take j) x
  have hbd:=ok_small hg hok
  rw [List.length_take] at hxl
  obtain ⟨q1,q2,q3,q4,q5,q6⟩:=hok
  simp only [G5.l0,P8]
  rw [if_pos (by omega),if_pos (Int.natCast_nonneg j),if_pos q1,if_pos q2,if_pos q3,if_pos q4,take_rd hj,onX_snoc,wr (a:=(j:Int)+1) (by omega) (by omega),wr (a:=(rd ps (j:Int)).Pos+1) (by omega) (by omega)]
  by_cases hin:inner g (rd ps (j:Int))
  ·rw [if_pos hin,if_pos q5,if_pos hin]
   by_cases hx:symAt g (rd ps (j:Int))=x
   ·rw [if_pos hx,Option.bind_some,if_pos (by simp only [List.length_cons,List.length_nil];omega),if_pos (show inner g (rd ps (j:Int))∧symAt g (rd ps (j:Int))=x from ⟨hin,hx⟩)]
    exact ⟨_,rfl,rfl⟩
   ·rw [if_neg hx,if_neg (show ¬ (inner g (rd ps (j:Int))∧symAt g (rd ps (j:Int))=x) from fun h=>hx h.2)]
    exact ⟨_,rfl,rfl⟩
  ·rw [if_neg hin,if_neg (show ¬ (inner g (rd ps (j:Int))∧symAt g (rd ps (j:Int))=x) from fun h=>hin h.1)]
   exact ⟨_,rfl,rfl⟩) (fun m s=>by simp only [G5.l0];rw [if_neg (by omega)]) K (by omega) [] (by simp [onX])
 rw [List.take_length] at h2
 have hxl:=onX_len g ps x
 unfold G5
 rw [h1,Option.bind_some,h2]
 show (J0 K g (onX g ps x)).bind _=_
 rw [closedR_eq K hK hm (onX_ok hp.2 x) (by omega)];rfl
theorem same_loop {T:Type} [Inhabited T] {K:Nat} {a b:List T} {L:Nat→Int→Option (Int ⊕ Bool)} (hK:a.length<K) (hlen:a.length=b.length)
  (step:∀ m (i:Nat),i<a.length→(rd a (i:Int)=rd b (i:Int)∧L (m+1) (i:Int)=L m ((i:Int)+1))∨(¬ rd a (i:Int)=rd b (i:Int)∧L (m+1) (i:Int)=some (.inr false))) (stop:∀ m,L (m+1) (a.length:Int)=some (.inl (a.length:Int))) (q:Prop) [Decidable q] (hq:q↔a=b):brk (L K 0) (fun _=>some true)=some (decide q):=by
 have ext:(∀ i:Nat,i<a.length→rd a (i:Int)=rd b (i:Int))→a=b:=fun h=>by
  apply List.ext_getElem hlen
  intro i h1 h2
  have:=h i h1
  rw [rd_nat,rd_nat,List.getD_eq_getElem?_getD,List.getD_eq_getElem?_getD,List.getElem?_eq_getElem h1,List.getElem?_eq_getElem h2] at this
  exact this
 rcases ask_all hK step stop with ⟨h1,h2⟩ | ⟨h1,h2⟩
 ·rw [h1,brk_l,decide_eq_true (hq.2 (ext h2))]
 ·rw [h1,brk_r,decide_eq_false fun h=>h2 fun i _=>by rw [hq.1 h]]
theorem samePlR_spec (K:Nat) (a b:List Place) (h:a.length<K) (hl:a.length≤9000000000000000000):y5 K a b=some (decide (a=b)):=by
 unfold y5
 by_cases hlen:a.length=b.length
 ·rw [if_neg (fun h=>h (by rw [hlen]))]
  refine same_loop h hlen (fun m i hi=>?_) (fun m=>by simp only [y5.l0];rw [if_neg (by omega)]) _ Iff.rfl
  simp only [y5.l0]
  rw [if_pos (by omega),if_pos (by omega),if_pos (by omega),wr (a:=(i:Int)+1) (by omega) (by omega)]
  by_cases e:rd a (i:Int)=rd b (i:Int)
  ·rw [if_neg (fun h=>h e)];exact .inl ⟨e,rfl⟩
  ·rw [if_pos e];exact .inr ⟨e,rfl⟩
 ·rw [if_pos (fun e=>hlen (by omega)),decide_eq_false (fun e=>hlen (by rw [e]))]
theorem SamePl_spec (K:Nat) (a b:List Place) (h:a.length<K) (hl:a.length≤9000000000000000000):L1 K a b=some (decide (a=b)):=by
 unfold L1
 by_cases hlen:a.length=b.length
 ·rw [if_neg (fun h=>h (by rw [hlen]))]
  refine same_loop h hlen (fun m i hi=>?_) (fun m=>by simp only [L1.l0];rw [if_neg (by omega)]) _ Iff.rfl
  simp only [L1.l0]
  rw [if_pos (by omega),if_pos (by omega),if_pos (by omega),wr (a:=(i:Int)+1) (by omega) (by omega)]
  by_cases e:rd a (i:Int)=rd b (i:Int)
  ·rw [if_neg (fun h=>h e)];exact .inl ⟨e,rfl⟩
  ·rw [if_pos e];exact .inr ⟨e,rfl⟩
 ·rw [if_pos (fun e=>hlen (by omega)),decide_eq_false (fun e=>hlen (by rw [e]))]
theorem SameMv_spec (K:Nat) (a b:List Move) (h:a.length<K) (hl:a.length≤9000000000000000000):m4 K a b=some (decide (a=b)):=by
 unfold m4
 by_cases hlen:a.length=b.length
 ·rw [if_neg (fun h=>h (by rw [hlen]))]
  refine same_loop h hlen (fun m i hi=>?_) (fun m=>by simp only [m4.l0];rw [if_neg (by omega)]) _ Iff.rfl
  simp only [m4.l0]
  rw [if_pos (by omega),if_pos (by omega),if_pos (by omega),wr (a:=(i:Int)+1) (by omega) (by omega)]
  by_cases e:rd a (i:Int)=rd b (i:Int)
  ·rw [if_neg (fun h=>h e)];exact .inl ⟨e,rfl⟩
  ·rw [if_pos e];exact .inr ⟨e,rfl⟩
 ·rw [if_pos (fun e=>hlen (by omega)),decide_eq_false (fun e=>hlen (by rw [e]))]
theorem ref_l2 (K:Nat) (hK:1000000≤K) {g:Grammar} (hg:Bd g) {S:List (List Place)} {r:List Place} (hS:∀ q ∈ S,RL g q) (hl:S.length≤1000):V0.l2 K S r K 0=some (ixOf S r:Int):=by
 obtain ⟨k,h1,h2,h3,h4⟩:=stop_loop (n:=S.length) (K:=K) (L:=V0.l2 K S r) (q:=fun i=>rd S (i:Int)≠r) (by omega) (fun m i hi=>by
  have:=(hS _ (mem_rd.2 ⟨i,hi,rfl⟩)).len hg
  simp only [V0.l2]
  rw [if_pos (by omega),if_pos (Int.natCast_nonneg i),samePlR_spec K _ _ (by omega) (by omega),Option.bind_some,wr (a:=(i:Int)+1) (by omega) (by omega)]
  by_cases e:rd S (i:Int)=r
  ·rw [decide_eq_true e,if_neg (by decide)];exact .inr ⟨fun h=>h e,rfl⟩
  ·rw [decide_eq_false e,if_pos (by decide)];exact .inl ⟨e,rfl⟩) (fun m=>by simp only [V0.l2];rw [if_neg (by omega)])
 rw [h2,ixOf_is h1 h3 fun h=>Classical.not_not.1 (h4 h)]
theorem ref_l1 (K:Nat) (hK:KW≤K) {g:Grammar} (hm:mayP g) {i:Nat} {ps:List Place} (hp:RL g ps):∀ (k j q:Nat) (S:List (List Place)) (M:List Move),j+k=(syms g ps).length→k<q→(∀ r ∈ S,RL g r)→S.length≤256→i<S.length→rd S (i:Int)=ps→M.length+k≤200000000 →
  V0.l1 K g i (syms g ps) q (M,S,(j:Int))=if (((syms g ps).drop j).foldl (stp g i ps) (S,M)).1.length≤256 then some (.inl ((((syms g ps).drop j).foldl (stp g i ps) (S,M)).2,(((syms g ps).drop j).foldl (stp g i ps) (S,M)).1,((syms g ps).length:Int))) else some (.inr (.inr (⟨[],[]⟩,1301)))
 | 0,j,q,S,M,hj,hq,hS,hl,hi,hr,hM=>by
  obtain ⟨q,rfl⟩:∃ p,q=p+1:=⟨q-1,by omega⟩
  have:j=(syms g ps).length:=by omega
  subst this
  rw [List.drop_length,List.foldl_nil,if_pos hl]
  simp only [V0.l1]
  rw [if_neg (by omega)]
 | k+1,j,q,S,M,hj,hq,hS,hl,hi,hr,hM=>by
  have hg:=may_bd hm
  have hK':=hK
  unfold KW at hK'
  obtain ⟨q,rfl⟩:∃ p,q=p+1:=⟨q-1,by omega⟩
  have hjl:j<(syms g ps).length:=by omega
  have hsl:=syms_len g ps
  have hpl:=hp.len hg
  have ed:(syms g ps).drop j=rd (syms g ps) (j:Int)::(syms g ps).drop (j+1):=by
   rw [List.drop_eq_getElem_cons hjl,rd_nat,List.getD_eq_getElem?_getD,List.getElem?_eq_getElem hjl];rfl
  have hxr:=clos_onX hm hp (rd (syms g ps) (j:Int))
  rw [ed,List.foldl_cons]
  simp only [V0.l1,sym_eta]
  rw [if_pos (by omega),if_pos (by omega),if_pos (Int.natCast_nonneg j),hr,moved_spec K hK hm hp,Option.bind_some,ref_l2 K (by omega) hg hS (by omega),Option.bind_some]
  have next:∀ S',S'=addS S (clos g (onX g ps (rd (syms g ps) (j:Int))))→S'.length≤256→(if (M.length+([(⟨(i:Int),rd (syms g ps) (j:Int),(ixOf S (clos g (onX g ps (rd (syms g ps) (j:Int)))):Int)⟩:Move)]:List Move).length)*40≤140737488355328 then V0.l1 K g i (syms g ps) q (M++([(⟨(i:Int),rd (syms g ps) (j:Int),(ixOf S (clos g (onX g ps (rd (syms g ps) (j:Int)))):Int)⟩:Move)]:List Move),S',IntKind.wrap .i64 ((j:Int)+1)) else none)=(if (((syms g ps).drop (j+1)).foldl (stp g i ps) (stp g i ps (S,M) (rd (syms g ps) (j:Int)))).1.length≤256 then some (.inl ((((syms g ps).drop (j+1)).foldl (stp g i ps) (stp g i ps (S,M) (rd (syms g ps) (j:Int)))).2,(((syms g ps).drop (j+1)).foldl (stp g i ps) (stp g i ps (S,M) (rd (syms g ps) (j:Int)))).1,((syms g ps).length:Int))) else some (.inr (.inr (⟨[],[]⟩,1301)))):=fun S' e hl'=>by
   have hal:=addS_len S (clos g (onX g ps (rd (syms g ps) (j:Int))))
   rw [if_pos (by simp only [List.length_cons,List.length_nil];omega),wr (a:=(j:Int)+1) (by omega) (by omega)]
   have hrl':∀ r ∈ S',RL g r:=e ▸ addS_rl hS hxr
   have hi':i<S'.length:=by rw [e];omega
   have hr':rd S' (i:Int)=ps:=by rw [e,addS_pre _ hi];exact hr
   have:=ref_l1 K hK hm hp k (j+1) q S' (M++[(⟨(i:Int),rd (syms g ps) (j:Int),(ixOf S (clos g (onX g ps (rd (syms g ps) (j:Int)))):Int)⟩:Move)]) (by omega) (by omega) hrl' hl' hi' hr' (by simp only [List.length_append,List.length_cons,List.length_nil];omega)
   rw [show ((j+1:Nat):Int)=(j:Int)+1 by omega] at this
   rw [this,e];rfl
  by_cases hmem:clos g (onX g ps (rd (syms g ps) (j:Int))) ∈ S
  ·have hlt:=ixOf_mem hmem
   rw [if_neg (by omega),brk_l]
   exact next S (by unfold addS;rw [if_pos hmem]) hl
  ·have heq:=ixOf_no hmem
   rw [if_pos (by omega)]
   by_cases h256:S.length=256
   ·rw [if_pos (by omega),brk_r]
    have hfl:=(fold_stp_len g i ps ((syms g ps).drop (j+1)) (stp g i ps (S,M) (rd (syms g ps) (j:Int)))).1
    have hl2:(stp g i ps (S,M) (rd (syms g ps) (j:Int))).1.length=257:=by
     simp only [stp,addS];rw [if_neg hmem];simp [h256]
    rw [if_neg (by omega)]
   ·rw [if_neg (by omega),if_pos (by simp only [List.length_cons,List.length_nil];omega),brk_l]
    exact next (S++[clos g (onX g ps (rd (syms g ps) (j:Int)))]) (by unfold addS;rw [if_neg hmem]) (by simp;omega)
theorem ref_l0 (K:Nat) (hK:KW≤K) {g:Grammar} (hm:mayP g):∀ (f:Nat) (S:List (List Place)) (M:List Move) (i q:Nat),f+i=258→f<q→(∀ r ∈ S,RL g r)→S.length≤256→i≤S.length→M.length≤i*262144 →
  brk (V0.l0 K g q (M,S,(i:Int))) (fun x=>some ((⟨x.2.1,x.1⟩:Automaton),(0:Int)))=some (resB (bldL g f S M i))
 | 0,S,M,i,q,hf,hq,hS,hl,hi,hM=>by omega
 | f+1,S,M,i,q,hf,hq,hS,hl,hi,hM=>by
  have hg:=may_bd hm
  have hK':=hK
  unfold KW at hK'
  obtain ⟨q,rfl⟩:∃ p,q=p+1:=⟨q-1,by omega⟩
  simp only [V0.l0,bldL]
  by_cases hiS:i<S.length
  ·have hp:RL g (rd S (i:Int)):=hS _ (mem_rd.2 ⟨i,hiS,rfl⟩)
   have hsl:=syms_len g (rd S (i:Int))
   have hpl:=hp.len hg
   have hlen:=fold_stp_len g i (rd S (i:Int)) (syms g (rd S (i:Int))) (S,M)
   have hrl:=fold_stp_rl hm i hp (syms g (rd S (i:Int))) (S,M) hS
   rw [if_pos (by omega),if_pos (Int.natCast_nonneg i),if_pos hiS,stand_spec K (by omega) hg hp,Option.bind_some]
   have h1:=ref_l1 K hK hm (i:=i) hp (syms g (rd S (i:Int))).length 0 K S M (by omega) (by omega) hS hl hiS rfl (by omega)
   rw [show ((0:Nat):Int)=0 from rfl,List.drop_zero] at h1
   rw [h1]
   show brk (brk (if (stA g i (rd S (i:Int)) (S,M)).1.length≤256 then some (.inl ((stA g i (rd S (i:Int)) (S,M)).2,(stA g i (rd S (i:Int)) (S,M)).1,((syms g (rd S (i:Int))).length:Int))) else (some (.inr (.inr ((⟨[],[]⟩:Automaton),(1301:Int)))):Option ((List Move×List (List Place)×Int) ⊕ ((List Move×List (List Place)×Int) ⊕ (Automaton×Int))))) _) _=_
   by_cases h256:256<(stA g i (rd S (i:Int)) (S,M)).1.length
   ·rw [if_neg (by omega),if_pos h256,brk_r,brk_r];rfl
   ·rw [if_pos (by omega),if_neg h256,brk_l]
    dsimp only
    rw [wr (a:=(i:Int)+1) (by omega) (by omega)]
    have:=ref_l0 K hK hm f (stA g i (rd S (i:Int)) (S,M)).1 (stA g i (rd S (i:Int)) (S,M)).2 (i+1) q (by omega) (by omega) hrl (by omega) (by unfold stA;have:=hlen.1;dsimp only at this;omega) (by
     have a:=hlen.2.2.1
     unfold stA;dsimp only at a;omega)
    rw [show ((i+1:Nat):Int)=(i:Int)+1 by omega] at this
    exact this
  ·rw [if_neg (by omega),if_neg hiS,brk_l];rfl
theorem Cl.mono {g:Grammar} {a b:List Place} (h:∀ p ∈ a,p ∈ b) {p:Place} (hc:Cl g a p):Cl g b p:=by
 induction hc with
 | base h1=>exact .base (h _ h1)
 | step _ h2 h3 ih=>exact .step ih h2 h3
theorem IsCl.congr {g:Grammar} {a b out:List Place} (h:IsCl g a out) (hm:∀ p,p ∈ a↔p ∈ b):IsCl g b out:=⟨h.1,fun p=>(h.2 p).trans ⟨Cl.mono fun q hq=>(hm q).1 hq,Cl.mono fun q hq=>(hm q).2 hq⟩⟩
noncomputable def autOf (g:Grammar):Option Automaton:=bldL g 258 [clos g (begs g g.Start)] [] 0
theorem Build_both (K:Nat) (hK:KW≤K) (g:Grammar):∃ b:Bool,(b=true↔mayP g)∧Q5 K g=some (if b=true then resB (autOf g) else (⟨[],[]⟩,1300))∧V0 K g=some (if b=true then resB (autOf g) else (⟨[],[]⟩,1300)):=by
 have hK':=hK
 unfold KW at hK'
 obtain ⟨b,hb,hbm⟩:=gMay_spec K (by omega) g
 obtain ⟨b2,hb2,hbm2⟩:=rMay_spec K (by omega) g
 have e:b2=b:=by cases b <;> cases b2 <;> simp_all
 subst e
 refine ⟨b2,hbm,?_⟩
 unfold Q5 V0
 rw [hb,Option.bind_some,hb2,Option.bind_some]
 cases b2 with
 | false=>exact ⟨rfl,rfl⟩
 | true =>
  have hm:=hbm.1 rfl
  have hg:=may_bd hm
  have hbo:okL g (begs g g.Start):=fun p hp=>begs_ok hp
  have hbl:=begs_len hg g.Start
  have hcl:=clos_is hm hbo (by omega)
  have hrl:=hcl.rl hbo
  rw [if_neg (show ¬ (!true)=true by decide),if_neg (show ¬ (!true)=true by decide),if_pos (show true=true from rfl)]
  constructor
  ·rw [begins_spec K (by omega) g hg,Option.bind_some,closedP_eq K hK hm hbo (by omega),Option.bind_some]
   obtain ⟨m',h1,h2⟩:=state_spec K (by omega) hg (S:=[]) (M:=[]) (m:=[]) hrl (by simp) (fun q _=>by simp [mget]) (by simp)
   rw [h1,Option.bind_some]
   have h3:addS [] (clos g (begs g g.Start))=[clos g (begs g g.Start)]:=rfl
   rw [h3] at h2 ⊢
   dsimp only
   have:=build_l0 K hK hm 258 [clos g (begs g g.Start)] [] m' 0 K (by omega) (by omega) (by simpa using hrl) h2 (by simp) (by simp) (by simp)
   exact this
  ·obtain ⟨o,h1,h2,h3⟩:=begun_spec K (by omega) g hg g.Start [] ⟨by simp,by simp⟩
   have hol:=h2.len hg
   have e2:clos g o=clos g (begs g g.Start):=clos_of (hcl.congr fun p=>by rw [h3];simp)
   rw [h1,Option.bind_some,closedR_eq K hK hm h2.2 (by omega),Option.bind_some,e2]
   have:=ref_l0 K hK hm 258 [clos g (begs g g.Start)] [] 0 K (by omega) (by omega) (by simpa using hrl) (by simp) (by simp) (by simp)
   exact this
end Go.Proofs.Ytgmnohjaciemmaa

namespace Go.Proofs.Ytgmnohjaciemmaa
open S Go.Sort
set_option linter.unusedVariables false
set_option linter.unusedSimpArgs false
set_option maxRecDepth 100000
structure AI (g:Grammar) (i:Nat) (done:List Symbol) (S:List (List Place)) (M:List Move):Prop where
 rl:∀ r ∈ S,RL g r
 pos:0<S.length
 nd:S.Nodup
 mv:∀ m ∈ M,0≤m.From∧(m.From<(i:Int)∨(m.From=(i:Int)∧m.Symbol ∈ done))∧m.From<(S.length:Int)∧0≤m.To∧m.To<(S.length:Int)∧m.Symbol ∈ syms g (rd S m.From)∧rd S m.To=clos g (onX g (rd S m.From) m.Symbol)
 pw:M.Pairwise fun a b=>a.From≤b.From∧¬ (a.From=b.From∧a.Symbol=b.Symbol)
 reach:∀ t:Nat,0<t→t<S.length→∃ m ∈ M,m.To=(t:Int)∧m.From<(t:Int)
 zero:rd S 0=clos g (begs g g.Start)
 ml:M.length≤i*262144+done.length
theorem addS_rdI {S:List (List Place)} (r:List Place) {i:Int} (h0:0≤i) (hi:i<(S.length:Int)):rd (addS S r) i=rd S i:=by
 have:=addS_pre r (i:=i.toNat) (S:=S) (by omega)
 rwa [Int.toNat_of_nonneg h0] at this
theorem AI.step {g:Grammar} (hm:mayP g) {i:Nat} {done:List Symbol} {S:List (List Place)} {M:List Move} (h:AI g i done S M) (hi:i<S.length) {x:Symbol} (hx:x ∈ syms g (rd S (i:Int))) (hd:x ∉ done):AI g i (done++[x]) (stp g i (rd S (i:Int)) (S,M) x).1 (stp g i (rd S (i:Int)) (S,M) x).2:=by
 have hp:RL g (rd S (i:Int)):=h.rl _ (mem_rd.2 ⟨i,hi,rfl⟩)
 have hr:=clos_onX hm hp x
 generalize hrr:clos g (onX g (rd S (i:Int)) x)=r at hr
 have hl:=addS_len S r
 have hto:rd (addS S r) (ixOf S r:Int)=r∧(ixOf S r:Nat)<(addS S r).length:=by
  by_cases hm:r ∈ S
  ·have:=ixOf_mem hm
   rw [addS_pre _ this]
   exact ⟨rd_ixOf hm,by omega⟩
  ·rw [ixOf_no hm]
   unfold addS
   rw [if_neg hm]
   exact ⟨by rw [rd_nat];simp,by simp⟩
 have e1:(stp g i (rd S (i:Int)) (S,M) x).1=addS S r:=by simp only [stp,hrr]
 have e2:(stp g i (rd S (i:Int)) (S,M) x).2=M++[(⟨(i:Int),x,(ixOf S r:Int)⟩:Move)]:=by simp only [stp,hrr]
 rw [e1,e2]
 refine ⟨addS_rl h.rl hr,by have:=h.pos;omega,?_,fun m hmm=>?_,?_,fun t h0 ht=>?_,?_,?_⟩
 ·unfold addS
  split
  ·exact h.nd
  ·rename_i hn
   refine List.nodup_append.2 ⟨h.nd,by simp,fun a ha b hb e=>?_⟩
   simp at hb;subst hb;exact hn (e ▸ ha)
 ·rcases List.mem_append.1 hmm with hmm | hmm
  ·obtain ⟨q1,q2,q3,q4,q5,q6,q7⟩:=h.mv m hmm
   refine ⟨q1,q2.imp id fun y=>⟨y.1,by simp [y.2]⟩,by omega,q4,by omega,?_,?_⟩
   ·rw [addS_rdI r q1 q3];exact q6
   ·rw [addS_rdI r q1 q3,addS_rdI r q4 q5];exact q7
  ·simp at hmm;subst hmm
   refine ⟨Int.natCast_nonneg i,.inr ⟨rfl,by simp⟩,by show (i:Int)<_;omega,Int.natCast_nonneg _,by show (ixOf S r:Int)<_;omega,?_,?_⟩
   ·show x ∈ syms g (rd (addS S r) (i:Int));rw [addS_pre _ hi];exact hx
   ·show rd (addS S r) (ixOf S r:Int)=clos g (onX g (rd (addS S r) (i:Int)) x);rw [addS_pre _ hi,hrr,hto.1]
 ·refine List.pairwise_append.2 ⟨h.pw,by simp,fun a ha b hb=>?_⟩
  simp at hb;subst hb
  obtain ⟨q1,q2,q3,_⟩:=h.mv a ha
  refine ⟨by show a.From≤(i:Int);rcases q2 with y | y <;> omega,fun y=>?_⟩
  have y1:a.From=(i:Int):=y.1
  have y2:a.Symbol=x:=y.2
  rcases q2 with z | z
  ·omega
  ·exact hd (y2 ▸ z.2)
 ·by_cases ht2:t<S.length
  ·obtain ⟨m,h1,h2,h3⟩:=h.reach t h0 ht2
   exact ⟨m,by simp [h1],h2,h3⟩
  ·have ht3:t=S.length:=by omega
   have hn:r ∉ S:=fun hm=>by unfold addS at ht;rw [if_pos hm] at ht;omega
   refine ⟨_,List.mem_append.2 (.inr (List.mem_singleton.2 rfl)),?_,?_⟩
   ·show (ixOf S r:Int)=(t:Int);rw [ixOf_no hn,ht3]
   ·show (i:Int)<(t:Int);omega
 ·rw [show (0:Int)=((0:Nat):Int) from rfl,addS_pre _ h.pos];exact h.zero
 ·have:=h.ml;simp only [List.length_append,List.length_cons,List.length_nil];omega
theorem AI.fold {g:Grammar} (hm:mayP g) {i:Nat} {ps:List Place}:∀ (xs done:List Symbol) (S:List (List Place)) (M:List Move),AI g i done S M→i<S.length→rd S (i:Int)=ps→(∀ x ∈ xs,x ∈ syms g ps)→(done++xs).Nodup→AI g i (done++xs) (xs.foldl (stp g i ps) (S,M)).1 (xs.foldl (stp g i ps) (S,M)).2
 | [],done,S,M,h,_,_,_,_=>by simpa using h
 | x::xs,done,S,M,h,hi,hps,hx,hn=>by
  have hd:x ∉ done:=fun hm=>(List.nodup_append.1 hn).2.2 x hm x (by simp) rfl
  have h1:=AI.step hm h hi (hps ▸ hx x (by simp)) hd
  rw [hps] at h1
  have hal:=addS_len S (clos g (onX g ps x))
  have h2:=AI.fold hm xs (done++[x]) (stp g i ps (S,M) x).1 (stp g i ps (S,M) x).2 h1 (by simp only [stp];omega) (by simp only [stp];rw [addS_pre _ hi];exact hps) (fun y hy=>hx y (by simp [hy])) (by simpa using hn)
  rw [List.foldl_cons]
  rw [List.append_assoc] at h2
  exact h2
theorem AI.next {g:Grammar} (hm:mayP g) {i:Nat} {S:List (List Place)} {M:List Move} (h:AI g i [] S M) (hi:i<S.length):AI g (i+1) [] (stA g i (rd S (i:Int)) (S,M)).1 (stA g i (rd S (i:Int)) (S,M)).2:=by
 have h1:=AI.fold hm (syms g (rd S (i:Int))) [] S M h hi rfl (fun x hx=>hx) (by simpa using syms_nodup g _)
 have hs:=syms_len g (rd S (i:Int))
 have hp:RL g (rd S (i:Int)):=h.rl _ (mem_rd.2 ⟨i,hi,rfl⟩)
 have hl:=hp.len (may_bd hm)
 refine ⟨h1.rl,h1.pos,h1.nd,fun m hmm=>?_,h1.pw,h1.reach,h1.zero,?_⟩
 ·obtain ⟨q1,q2,q3⟩:=h1.mv m hmm
  exact ⟨q1,.inl (by rcases q2 with y | y <;> omega),q3⟩
 ·have h5:=h1.ml
  rw [List.nil_append] at h5
  rw [Nat.add_mul]
  exact Nat.le_trans h5 (by omega)
theorem aut_AI {g:Grammar} (hm:mayP g) {a:Automaton} (ha:autOf g=some a):a.States.length≤256∧∃ i,i≤256∧a.States.length≤i∧AI g i [] a.States a.Moves:=by
 have key:∀ (f:Nat) (S:List (List Place)) (M:List Move) (i:Nat),i≤S.length→S.length≤256→AI g i [] S M→bldL g f S M i=some a→a.States.length≤256∧∃ i,i≤256∧a.States.length≤i∧AI g i [] a.States a.Moves:=by
  intro f
  induction f with
  | zero=>intro S M i _ _ _ h;cases h
  | succ f ih =>
   intro S M i hi hl h hb
   rw [bldL] at hb
   by_cases hiS:i<S.length
   ·rw [if_pos hiS] at hb
    by_cases h256:256<(stA g i (rd S (i:Int)) (S,M)).1.length
    ·rw [if_pos h256] at hb;cases hb
    ·rw [if_neg h256] at hb
     have hfl:=(fold_stp_len g i (rd S (i:Int)) (syms g (rd S (i:Int))) (S,M)).1
     exact ih _ _ _ (by unfold stA;dsimp only at hfl;omega) (by omega) (AI.next hm h hiS) hb
   ·rw [if_neg hiS] at hb
    cases hb
    exact ⟨hl,i,by omega,(by show S.length≤i;omega),h⟩
 have hbo:okL g (begs g g.Start):=fun p hp=>begs_ok hp
 have hbl:=begs_len (may_bd hm) g.Start
 refine key 258 _ _ 0 (Nat.zero_le _) (by simp) ⟨by simpa using (clos_is hm hbo (by omega)).rl hbo,by simp,by simp,by simp,by simp,fun t h0 h1=>?_,rfl,by simp⟩ ha
 simp at h1;omega
def grA:Grammar:=(⟨(0:Int),([(⟨#[83]⟩:ByteArray)]:List ByteArray),([(⟨(0:Int),([(⟨false,([(⟨(-1),97,97⟩:Symbol),(⟨(0:Int),(0:Int),(0:Int)⟩:Symbol)]:List Symbol)⟩:Conjunct)]:List Conjunct)⟩:Rule),(⟨(0:Int),([(⟨false,([]:(List Symbol))⟩:Conjunct)]:List Conjunct)⟩:Rule)]:List Rule)⟩:Grammar)
def auA:Automaton:=⟨[[⟨0,0,0⟩,⟨1,0,0⟩],[⟨0,0,0⟩,⟨0,0,1⟩,⟨1,0,0⟩],[⟨0,0,2⟩]],[⟨0,⟨-1,97,97⟩,1⟩,⟨1,⟨-1,97,97⟩,1⟩,⟨1,⟨0,0,0⟩,2⟩]⟩
theorem bldA (K:Nat):V0 (K+1000) grA=some (auA,0):=by kernel_rfl
theorem clsA (K:Nat):V3 (K+1000) grA [⟨0,0,1⟩]=some ([⟨0,0,0⟩,⟨0,0,1⟩,⟨1,0,0⟩],0):=by kernel_rfl
theorem clsB (K:Nat):V3 (K+1000) grA [⟨0,0,3⟩]=some ([],1300):=by kernel_rfl
theorem Build_ref (K:Nat) (hK:KW≤K) (g:Grammar):Q5 K g=V0 K g:=by
 obtain ⟨b,_,h1,h2⟩:=Build_both K hK g
 rw [h1,h2]
theorem Close_ref (K:Nat) (hK:KW≤K) (g:Grammar) (ps:List Place) (hl:ps.length*24≤140737488351232):j5 K g ps=V3 K g ps:=by
 obtain ⟨b,_,h1,h2⟩:=Close_both K hK g ps hl
 rw [h1,h2]
theorem awake13 (K:Nat) (hK:KW≤K):m6 K=some true:=by
 have e1:=Build_ref K hK grA
 have e2:=Close_ref K hK grA [⟨0,0,1⟩] (by simp)
 have e3:=Close_ref K hK grA [⟨0,0,3⟩] (by simp)
 have s1:=SameMv_spec K auA.Moves [⟨0,⟨-1,97,97⟩,1⟩,⟨1,⟨-1,97,97⟩,1⟩,⟨1,⟨0,0,0⟩,2⟩] (by unfold KW at hK;simp [auA];omega) (by simp [auA])
 have s2:=SamePl_spec K [⟨0,0,0⟩,⟨0,0,1⟩,⟨1,0,0⟩] [⟨0,0,0⟩,⟨0,0,1⟩,⟨1,0,0⟩] (by unfold KW at hK;simp;omega) (by simp)
 obtain ⟨K',rfl⟩:∃ q,K=q+1000:=⟨K-1000,by unfold KW at hK;omega⟩
 rw [bldA] at e1
 rw [clsA] at e2
 rw [clsB] at e3
 unfold m6
 rw [show (⟨(0:Int),([(⟨#[83]⟩:ByteArray)]:List ByteArray),([(⟨(0:Int),([(⟨false,([(⟨(-1),97,97⟩:Symbol),(⟨(0:Int),(0:Int),(0:Int)⟩:Symbol)]:List Symbol)⟩:Conjunct)]:List Conjunct)⟩:Rule),(⟨(0:Int),([(⟨false,([]:(List Symbol))⟩:Conjunct)]:List Conjunct)⟩:Rule)]:List Rule)⟩:Grammar)=grA from rfl,e1,Option.bind_some,e2,Option.bind_some,e3,Option.bind_some]
 dsimp only
 rw [if_pos (show (auA.States.length:Int)=3 from rfl),s1,Option.bind_some,if_pos (by simp [auA])]
 unfold m3
 rw [Option.bind_some,if_pos rfl,s2,Option.bind_some,if_pos (by simp),Option.bind_some,if_pos rfl,Option.bind_some]
 rfl
end Go.Proofs.Ytgmnohjaciemmaa

namespace Go.Proofs.Ytgmnohjaciemmaa
open S
set_option linter.unusedVariables false
set_option linter.unusedSimpArgs false
set_option maxRecDepth 100000
def Fit (n:Int) (es:List Edge):Prop:=∀ e ∈ es,(0≤e.From∧e.From<n)∧0≤e.To∧e.To<n
def May (n:Int) (es:List Edge):Prop:=0≤n∧n≤64∧Fit n es
inductive Reach (es:List Edge):Int→Int→Prop
 | refl (i:Int):Reach es i i
 | step {i:Int} {e:Edge}:Reach es i e.From→e ∈ es→Reach es i e.To
theorem Reach.trans {es:List Edge} {i j k:Int} (h1:Reach es i j) (h2:Reach es j k):Reach es i k:=by
 induction h2 with
 | refl=>exact h1
 | step _ he ih=>exact .step ih he
theorem edgesMay_spec (names:Int) (es:List Edge) (hl:es.length<9223372036854775807) (K:Nat) (hK:es.length<K):∃ b,b5 K names es=some b∧(b=true↔May names es):=by
 unfold b5
 obtain ⟨r,hr,hq⟩:=rounds (L:=b5.l0 K names es) (fun s=>∃ t:Nat,s=t∧t≤es.length∧Fit names (es.take t)) (fun s=>es.length-s.toNat)
  (fun r=>match r with | .inl _=>Fit names es | .inr b=>b=false∧¬ Fit names es) (fun s m hI=>by
   obtain ⟨t,rfl,ht,hf⟩:=hI
   simp only [b5.l0]
   by_cases hlt:(t:Int)<es.length
   ·have hlt':t<es.length:=by omega
    have hm:=rd_mem (xs:=es) (Int.natCast_nonneg t) hlt
    rw [if_pos hlt,if_pos (Int.natCast_nonneg t)]
    generalize hrd:rd es (t:Int)=e at hm
    by_cases a1:e.From<0
    ·exact .inl ⟨.inr false,by rw [if_pos a1],rfl,fun h=>by have:=h e hm;omega⟩
    by_cases a2:names≤e.From
    ·exact .inl ⟨.inr false,by rw [if_neg a1,if_pos a2],rfl,fun h=>by have:=h e hm;omega⟩
    by_cases a3:e.To<0
    ·exact .inl ⟨.inr false,by rw [if_neg a1,if_neg a2,if_pos a3],rfl,fun h=>by have:=h e hm;omega⟩
    by_cases a4:names≤e.To
    ·exact .inl ⟨.inr false,by rw [if_neg a1,if_neg a2,if_neg a3,if_pos a4],rfl,fun h=>by have:=h e hm;omega⟩
    rw [if_neg a1,if_neg a2,if_neg a3,if_neg a4,wr (by omega) (by omega)]
    refine .inr ⟨(t:Int)+1,⟨t+1,by simp,hlt',?_⟩,by omega,rfl⟩
    intro x hx
    rw [List.take_add_one,List.mem_append] at hx
    rcases hx with hx | hx
    ·exact hf x hx
    ·have hg:=rd_get (xs:=es) (Int.natCast_nonneg t) hlt
     rw [Int.toNat_natCast,hrd] at hg
     rw [hg] at hx
     simp at hx;subst hx
     omega
   ·rw [if_neg hlt]
    refine .inl ⟨.inl (t:Int),rfl,?_⟩
    have:t=es.length:=by omega
    subst this
    simpa using hf) K 0 ⟨0,rfl,Nat.zero_le _,by intro e he;simp at he⟩ (by simpa using hK)
 rw [hr]
 cases r with
 | inl s =>
  by_cases h0:0≤names
  ·refine ⟨decide (names≤64),by simp [brk,h0],?_⟩
   rw [decide_eq_true_eq]
   exact ⟨fun h=>⟨h0,h,hq⟩,fun h=>h.2.1⟩
  ·exact ⟨false,by simp [brk,h0],by simp only [Bool.false_eq_true,false_iff];exact fun h=>h0 h.1⟩
 | inr b=>obtain ⟨rfl,hq⟩:=hq;exact ⟨false,by simp [brk],by simp only [Bool.false_eq_true,false_iff];rintro ⟨_,_,h⟩;exact hq h⟩
def BLe (xs ys:List Bool):Prop:=xs.length=ys.length∧∀ i:Nat,i<xs.length→rd xs (i:Int)=true→rd ys (i:Int)=true
theorem BLe.refl (xs:List Bool):BLe xs xs:=⟨rfl,fun _ _ h=>h⟩
theorem BLe.trans {xs ys zs:List Bool} (h1:BLe xs ys) (h2:BLe ys zs):BLe xs zs:=⟨h1.1.trans h2.1,fun i hi h=>h2.2 i (by have:=h1.1;omega) (h1.2 i hi h)⟩
theorem count_lt:∀ {xs ys:List Bool},BLe xs ys→xs≠ys→xs.count true<ys.count true:=by
 have le:∀ {xs ys:List Bool},BLe xs ys→xs.count true≤ys.count true:=by
  intro xs
  induction xs with
  | nil=>intro ys h;simp
  | cons x xs ih =>
   intro ys h
   cases ys with
   | nil=>have:=h.1;simp at this
   | cons y ys =>
    have ht:BLe xs ys:=⟨by have:=h.1;simpa using this,fun i hi hx=>by
     have:=h.2 (i+1) (by simp;omega)
     simp only [rd,Int.toNat_natCast,List.getD_cons_succ] at this hx ⊢
     exact this hx⟩
    have h0:=h.2 0 (by simp)
    simp only [rd,Int.toNat_natCast,List.getD_cons_zero] at h0
    have:=ih ht
    cases x <;> cases y <;> simp at h0 ⊢ <;> omega
 intro xs
 induction xs with
 | nil=>intro ys h hne;have:=h.1;simp at this;exact absurd (by rw [List.eq_nil_of_length_eq_zero this.symm]) hne
 | cons x xs ih =>
  intro ys h hne
  cases ys with
  | nil=>have:=h.1;simp at this
  | cons y ys =>
   have ht:BLe xs ys:=⟨by have:=h.1;simpa using this,fun i hi hx=>by
    have:=h.2 (i+1) (by simp;omega)
    simp only [rd,Int.toNat_natCast,List.getD_cons_succ] at this hx ⊢
    exact this hx⟩
   have h0:=h.2 0 (by simp)
   simp only [rd,Int.toNat_natCast,List.getD_cons_zero] at h0
   by_cases e:xs=ys
   ·subst e
    cases x <;> cases y <;> simp at h0 hne ⊢
   ·have:=ih ht e
    cases x <;> cases y <;> simp at h0 ⊢ <;> omega
theorem pass_spec (n:Nat) (es:List Edge) (hl:es.length<9223372036854775807) (hf:Fit n es) (G:Nat→Prop) (hG:∀ e ∈ es,∀ i j:Nat,e.From=i→e.To=j→G i→G j) (xs:List Bool) (hx:xs.length=n) (hs:∀ i:Nat,i<n→rd xs (i:Int)=true→G i) (K m:Nat) (hm:es.length<m) :
  ∃ r,V2.l1 K es m (xs,0)=some r∧(BLe xs r.1∧(∀ i:Nat,i<n→rd r.1 (i:Int)=true→G i)∧∀ e ∈ es,rd xs e.From=true→rd r.1 e.To=true):=by
 refine rounds (L:=V2.l1 K es) (fun s=>∃ t:Nat,s.2=t∧t≤es.length∧BLe xs s.1∧(∀ i:Nat,i<n→rd s.1 (i:Int)=true→G i)∧∀ e ∈ es.take t,rd xs e.From=true→rd s.1 e.To=true) (fun s=>es.length-s.2.toNat) _ (fun s m hI=>?_) m _ ⟨0,rfl,Nat.zero_le _,BLe.refl _,hs,by simp⟩ (by simpa using hm)
 obtain ⟨ys,t'⟩:=s
 obtain ⟨t,rfl,ht,h1,h2,h3⟩:=hI
 simp only at h1 h2 h3
 simp only [V2.l1]
 by_cases hlt:(t:Int)<es.length
 ·have hlt':t<es.length:=by omega
  have hm:=rd_mem (xs:=es) (Int.natCast_nonneg t) hlt
  have hg:=rd_get (xs:=es) (Int.natCast_nonneg t) hlt
  rw [Int.toNat_natCast] at hg
  rw [if_pos hlt,if_pos (Int.natCast_nonneg t)]
  generalize rd es (t:Int)=e at hm hg
  obtain ⟨⟨f0,f1⟩,f2,f3⟩:=hf e hm
  have hyl:ys.length=n:=by have:=h1.1;omega
  obtain ⟨p,hp⟩:=Int.eq_ofNat_of_zero_le f0
  obtain ⟨q,hq⟩:=Int.eq_ofNat_of_zero_le f2
  have htake:es.take (t+1)=es.take t++[e]:=by rw [List.take_add_one,hg];rfl
  rw [if_pos f0,if_pos (by omega),wr (by omega) (by omega)]
  by_cases hb:rd ys e.From=true
  ·rw [if_pos hb,if_pos f2,if_pos (by omega)]
   have hset:∀ j:Nat,rd (ys.set e.To.toNat true) (j:Int)=if q=j then true else rd ys (j:Int):=by
    intro j
    rw [hq,Int.toNat_natCast,rd_set _ (by omega)]
   refine .inr ⟨_,⟨t+1,by simp,hlt',h1.trans ⟨by simp,fun i hi h=>?_⟩,fun i hi h=>?_,fun e' he' h=>?_⟩,by simp only;omega,rfl⟩
   ·rw [hset];split <;> first | rfl | exact h
   ·rw [hset] at h
    split at h
    ·rename_i hqi
     subst hqi
     exact hG e hm p q hp hq (h2 p (by omega) (by rw [← hp];exact hb))
    ·exact h2 i hi h
   ·rw [htake,List.mem_append] at he'
    rcases he' with he' | he'
    ·have:=h3 e' he' h
     obtain ⟨⟨_,_⟩,g2,g3⟩:=hf e' (List.mem_of_mem_take he')
     obtain ⟨u,hu⟩:=Int.eq_ofNat_of_zero_le g2
     rw [hu] at this ⊢
     rw [hset];split <;> first | rfl | exact this
    ·simp at he';subst he'
     have:=hset q
     rw [if_pos rfl,← hq] at this
     exact this
  ·rw [if_neg hb]
   refine .inr ⟨_,⟨t+1,by simp,hlt',h1,h2,fun e' he' h=>?_⟩,by simp only;omega,rfl⟩
   rw [htake,List.mem_append] at he'
   rcases he' with he' | he'
   ·exact h3 e' he' h
   ·simp at he';subst he'
    refine absurd ?_ hb
    rw [hp] at h ⊢
    exact h1.2 p (by omega) h
 ·rw [if_neg hlt]
  have:t=es.length:=by omega
  subst this
  rw [List.take_length] at h3
  exact .inl ⟨_,rfl,h1,h2,h3⟩
theorem reached_spec (n:Nat) (hn:n≤64) (es:List Edge) (hl:es.length<9223372036854775807) (hf:Fit n es) (a:Nat) (ha:a<n) (K:Nat) (hK:64<K) (hK':es.length<K):∃ xs,V2 K n es a=some xs∧(xs.length=n∧∀ j:Nat,j<n→(rd xs (j:Int)=true↔Reach es a j)):=by
 unfold V2
 rw [if_pos (Int.natCast_nonneg n),if_pos (by omega),if_pos (Int.natCast_nonneg a),if_pos (by simp;omega),Int.toNat_natCast,Int.toNat_natCast]
 let G:Nat→Prop:=fun j=>Reach es a j
 have hG:∀ e ∈ es,∀ i j:Nat,e.From=i→e.To=j→G i→G j:=fun e he i j h1 h2 hg=>by
  show Reach es a j
  rw [← h2]
  exact .step (by rw [h1];exact hg) he
 have init1:∀ i:Nat,i<n→rd ((List.replicate n false).set a true) (i:Int)=true→G i:=by
  intro i hi h
  rw [rd_set _ (by simp;omega)] at h
  split at h
  ·rename_i hai
   subst hai
   exact .refl _
  ·rw [rd_rep _ hi] at h;cases h
 have init2:rd ((List.replicate n false).set a true) (a:Int)=true:=by rw [rd_set _ (by simp;omega),if_pos rfl]
 have init3:0+1≤((List.replicate n false).set a true).count true:=by
  have:true ∈ (List.replicate n false).set a true:=List.mem_of_getElem? (i:=a) (by simp [ha])
  have:=List.count_pos_iff.2 this
  omega
 obtain ⟨r,hr,hq1,hq2,hq3,hq4⟩:=rounds (L:=V2.l0 K n es) (fun s=>∃ t:Nat,s.2=t∧t≤n∧s.1.length=n∧(∀ i:Nat,i<n→rd s.1 (i:Int)=true→G i)∧rd s.1 (a:Int)=true∧((∀ e ∈ es,rd s.1 e.From=true→rd s.1 e.To=true)∨t+1≤s.1.count true)) (fun s=>n-s.2.toNat)
  (fun r=>r.1.length=n∧(∀ i:Nat,i<n→rd r.1 (i:Int)=true→G i)∧rd r.1 (a:Int)=true∧∀ e ∈ es,rd r.1 e.From=true→rd r.1 e.To=true) (fun s m hI=>by
   obtain ⟨xs,t'⟩:=s
   obtain ⟨t,rfl,ht,h1,h2,h3,h4⟩:=hI
   simp only at h1 h2 h3 h4
   simp only [V2.l0]
   by_cases hlt:(t:Int)<n
   ·obtain ⟨⟨ys,u⟩,e1,e2,e3,e4⟩:=pass_spec n es hl hf G hG xs h1 h2 K K hK'
    simp only at e2 e3 e4
    rw [if_pos hlt,e1,wr (by omega) (by omega)]
    refine .inr ⟨(ys,(t:Int)+1),⟨t+1,by simp,by omega,by have:=e2.1;simp only;omega,e3,e2.2 a (by omega) h3,?_⟩,by simp only;omega,rfl⟩
    by_cases he:xs=ys
    ·subst he;exact .inl e4
    ·have hc:=count_lt e2 he
     rcases h4 with h4 | h4
     ·
      refine .inl fun e he' hfr=>?_
      have hsub:∀ i:Nat,i<n→rd ys (i:Int)=true→rd xs (i:Int)=true:=by
       obtain ⟨⟨zs,v⟩,k1,_,k3,_⟩:=pass_spec n es hl hf (fun i=>rd xs (i:Int)=true) (fun e he i j h1 h2 hg=>by
        have:=h4 e he (by rw [h1];exact hg)
        rwa [h2] at this) xs h1 (fun i _ h=>h) K K hK'
       rw [e1] at k1;cases k1
       exact k3
      obtain ⟨⟨f0,f1⟩,f2,f3⟩:=hf e he'
      obtain ⟨p,hp⟩:=Int.eq_ofNat_of_zero_le f0
      obtain ⟨q,hq⟩:=Int.eq_ofNat_of_zero_le f2
      simp only at hfr ⊢
      rw [hp] at hfr
      have:=h4 e he' (by rw [hp];exact hsub p (by omega) hfr)
      rw [hq] at this ⊢
      exact e2.2 q (by omega) this
     ·exact .inr (by simp only;omega)
   ·rw [if_neg hlt]
    refine .inl ⟨_,rfl,h1,h2,h3,?_⟩
    rcases h4 with h4 | h4
    ·exact h4
    ·have:=List.count_le_length (a:=true) (l:=xs)
     omega) K ((List.replicate n false).set a true,0) ⟨0,rfl,Nat.zero_le _,by simp,init1,init2,.inr init3⟩ (by simp only [Int.toNat_zero];omega)
 rw [hr]
 obtain ⟨xs,t⟩:=r
 simp only at hq1 hq2 hq3 hq4
 refine ⟨xs,rfl,hq1,fun j hj=>⟨hq2 j hj,fun h=>?_⟩⟩
 have:∀ x:Int,Reach es a x→rd xs x=true:=by
  intro x hx
  induction hx with
  | refl=>exact hq3
  | step _ he ih=>exact hq4 _ he ih
 exact this j h
theorem RReaches_spec (names:Int) (es:List Edge) (a b:Int) (hl:es.length<9223372036854775807) (K:Nat) (hK:64<K) (hK':es.length<K):∃ r,V7 K names es a b=some r∧(r=true↔May names es∧(0≤a∧a<names)∧(0≤b∧b<names)∧Reach es a b):=by
 obtain ⟨m,hm,hm'⟩:=edgesMay_spec names es hl K hK'
 unfold V7
 rw [hm]
 simp only [Option.bind_some]
 by_cases hmay:May names es
 ·have:=hm'.2 hmay
  subst this
  have hmay':=hmay
  obtain ⟨h0,h1,hf⟩:=hmay'
  obtain ⟨n,rfl⟩:=Int.eq_ofNat_of_zero_le h0
  rw [if_neg (by decide)]
  by_cases a1:a<0
  ·exact ⟨false,by rw [if_pos a1],by simp only [Bool.false_eq_true,false_iff];rintro ⟨_,_,_⟩;omega⟩
  by_cases a2:(n:Int)≤a
  ·exact ⟨false,by rw [if_neg a1,if_pos a2],by simp only [Bool.false_eq_true,false_iff];rintro ⟨_,_,_⟩;omega⟩
  by_cases a3:b<0
  ·exact ⟨false,by rw [if_neg a1,if_neg a2,if_pos a3],by simp only [Bool.false_eq_true,false_iff];rintro ⟨_,_,_,_⟩;omega⟩
  by_cases a4:(n:Int)≤b
  ·exact ⟨false,by rw [if_neg a1,if_neg a2,if_neg a3,if_pos a4],by simp only [Bool.false_eq_true,false_iff];rintro ⟨_,_,_,_⟩;omega⟩
  obtain ⟨i,rfl⟩:=Int.eq_ofNat_of_zero_le (show 0≤a by omega)
  obtain ⟨j,rfl⟩:=Int.eq_ofNat_of_zero_le (show 0≤b by omega)
  obtain ⟨xs,h2,h3,h4⟩:=reached_spec n (by omega) es hl hf i (by omega) K hK hK'
  rw [if_neg a1,if_neg a2,if_neg a3,if_neg a4,h2]
  simp only [Option.bind_some]
  rw [if_pos (by rw [h3];omega)]
  exact ⟨_,rfl,(h4 j (by omega)).trans ⟨fun h=>⟨hmay,by omega,by omega,h⟩,fun h=>h.2.2.2⟩⟩
 ·have:m=false:=by cases m;rfl;exact absurd (hm'.1 rfl) hmay
  subst this
  exact ⟨false,rfl,by simp only [Bool.false_eq_true,false_iff];exact fun h=>hmay h.1⟩
open S Go.Sort
theorem scan_from {ρ:Type} {n K:Nat} {L:Nat→Int→Option (Int ⊕ ρ)} (i0:Nat) (hi:i0≤n) (hn:n<K) (step:∀ m i,i0≤i→i<n→L (m+1) (i:Int)=L m ((i:Int)+1)) (stop:∀ m,L (m+1) (n:Int)=some (.inl (n:Int))):L K (i0:Int)=some (.inl (n:Int)):=by
 have key:∀ k i m,i+k=n→k<m→i0≤i→L m (i:Int)=some (.inl (n:Int)):=by
  intro k
  induction k with
  | zero =>
   intro i m hi hm _
   obtain ⟨m,rfl⟩:∃ q,m=q+1:=⟨m-1,by omega⟩
   have:i=n:=by omega
   subst this
   exact stop m
  | succ k ih =>
   intro i m hi hm h0
   obtain ⟨m,rfl⟩:∃ q,m=q+1:=⟨m-1,by omega⟩
   rw [step m i h0 (by omega)]
   simpa using ih (i+1) m (by omega) (by omega) (by omega)
 exact key (n-i0) i0 K (by omega) (by omega) (Nat.le_refl _)
theorem close_rl (K:Nat) (hK:KW≤K) {g:Grammar} (hm:mayP g) {ps:List Place} (hp:okL g ps) (hl:ps.length*24≤140737488351232):j5 K g ps=some (clos g ps,0)∧V3 K g ps=some (clos g ps,0):=by
 obtain ⟨b,h1,h2,h3⟩:=Close_both K hK g ps hl
 have:b=true:=h1.2 ⟨hm,hp⟩
 subst this
 exact ⟨h2,h3⟩
theorem whole_spec (K:Nat) (hK:KW≤K) {g:Grammar} (hm:mayP g) {a:Automaton} {i:Nat} (hi:i≤256) (hl:a.States.length≤256) (h:AI g i [] a.States a.Moves):W2 K g a=some true:=by
 have hg:=may_bd hm
 have hK':=hK
 unfold KW at hK'
 have hml:=h.ml
 have:i*262144≤256*262144:=Nat.mul_le_mul_right _ hi
 simp only [List.length_nil] at hml
 have h1:=scan_from (K:=K) (L:=W2.l0 K g a) 0 (n:=a.States.length) (Nat.zero_le _) (by omega) (fun m j _ hj=>by
  have hr:RL g (rd a.States (j:Int)):=h.rl _ (mem_rd.2 ⟨j,hj,rfl⟩)
  have hrl:=hr.len hg
  simp only [W2.l0]
  rw [if_pos (by omega),if_pos (Int.natCast_nonneg j),(close_rl K hK hm hr.2 (by omega)).2,Option.bind_some,if_neg (fun x=>x rfl),wr (a:=(j:Int)+1) (by omega) (by omega)]) (fun m=>by simp only [W2.l0];rw [if_neg (by omega)])
 have h2:=scan_from (K:=K) (L:=W2.l1 K a) 0 (n:=a.Moves.length) (Nat.zero_le _) (by omega) (fun m j _ hj=>by
  have hr:=h.mv (rd a.Moves (j:Int)) (mem_rd.2 ⟨j,hj,rfl⟩)
  simp only [W2.l1]
  rw [if_pos (by omega),if_pos (Int.natCast_nonneg j),if_neg (by omega),if_neg (by omega),if_neg (by omega),if_neg (by omega),wr (a:=(j:Int)+1) (by omega) (by omega)]) (fun m=>by simp only [W2.l1];rw [if_neg (by omega)])
 unfold W2
 rw [show (0:Int)=((0:Nat):Int) from rfl,h1,brk_l,h2,brk_l]
 have:=h.pos
 rw [decide_eq_true (by omega)]
theorem place_eta (p:Place):(⟨p.Rule,p.Conj,p.Pos⟩:Place)=p:=rfl
theorem mv_l1 (K:Nat) (hK:KW≤K) {g:Grammar} (hm:mayP g) (r:Automaton×Int) {i j:Nat} (h:AI g i [] r.1.States r.1.Moves) (hj:j<r.1.Moves.length) :
  k0.l1 K g r j K ([],0)=some (onX g (rd r.1.States (rd r.1.Moves (j:Int)).From) (rd r.1.Moves (j:Int)).Symbol,((rd r.1.States (rd r.1.Moves (j:Int)).From).length:Int)):=by
 have hg:=may_bd hm
 have hK':=hK
 unfold KW at hK'
 obtain ⟨q1,_,q3,q4,q5,q6,q7⟩:=h.mv (rd r.1.Moves (j:Int)) (mem_rd.2 ⟨j,hj,rfl⟩)
 have hp:RL g (rd r.1.States (rd r.1.Moves (j:Int)).From):=h.rl _ (rd_mem q1 q3)
 have hl:=hp.len hg
 generalize hps:rd r.1.States (rd r.1.Moves (j:Int)).From=ps at *
 obtain ⟨xs,h1,h2⟩:=invLoop (n:=ps.length) (k0.l1 K g r j) (fun t xs=>xs=onX g (ps.take t) (rd r.1.Moves (j:Int)).Symbol) (fun m xs t ht hI=>by
  subst hI
  have hok:=hp.2 _ (mem_rd.2 ⟨t,ht,rfl⟩)
  have hxl:=onX_len g (ps.take t) (rd r.1.Moves (j:Int)).Symbol
  have hbd:=ok_small hg hok
  rw [List.length_take] at hxl
  obtain ⟨c1,c2,c3,c4,c5,c6⟩:=hok
  simp only [k0.l1,P8,sym_eta,place_eta,hps]
  rw [if_pos q1,if_pos q3,if_pos (by omega),if_pos (Int.natCast_nonneg t),if_pos c1,if_pos c2,if_pos c3,if_pos c4,take_rd ht,onX_snoc,wr (a:=(t:Int)+1) (by omega) (by omega),wr (a:=(rd ps (t:Int)).Pos+1) (by omega) (by omega)]
  by_cases hin:inner g (rd ps (t:Int))
  ·rw [if_pos hin,if_pos c5,if_pos hin]
   by_cases hx:symAt g (rd ps (t:Int))=(rd r.1.Moves (j:Int)).Symbol
   ·rw [if_pos hx,Option.bind_some,if_pos (by simp only [List.length_cons,List.length_nil];omega),if_pos (show inner g (rd ps (t:Int))∧symAt g (rd ps (t:Int))=(rd r.1.Moves (j:Int)).Symbol from ⟨hin,hx⟩)]
    exact ⟨_,rfl,rfl⟩
   ·rw [if_neg hx,if_neg (show ¬ (inner g (rd ps (t:Int))∧symAt g (rd ps (t:Int))=(rd r.1.Moves (j:Int)).Symbol) from fun h=>hx h.2)]
    exact ⟨_,rfl,rfl⟩
  ·rw [if_neg hin,if_neg (show ¬ (inner g (rd ps (t:Int))∧symAt g (rd ps (t:Int))=(rd r.1.Moves (j:Int)).Symbol) from fun h=>hin h.1)]
   exact ⟨_,rfl,rfl⟩) (fun m s=>by simp only [k0.l1,hps];rw [if_pos q1,if_pos q3,if_neg (by omega)]) K (by omega) [] (by simp [onX])
 rw [List.take_length] at h2
 rw [h1,h2]
theorem pw_rd {T:Type} [Inhabited T] {R:T→T→Prop} {xs:List T} (h:xs.Pairwise R) {i j:Nat} (hij:i<j) (hj:j<xs.length):R (rd xs (i:Int)) (rd xs (j:Int)):=by
 have:=List.pairwise_iff_getElem.1 h i j (by omega) hj hij
 rw [rd_nat,rd_nat,List.getD_eq_getElem?_getD,List.getD_eq_getElem?_getD,List.getElem?_eq_getElem (by omega),List.getElem?_eq_getElem hj]
 exact this
theorem mv_l2 (K:Nat) (r:Automaton×Int) {j:Nat} (hj:j<r.1.Moves.length) (hl:r.1.Moves.length≤100000000) (hK:1000000000≤K) (hpw:r.1.Moves.Pairwise fun a b=>a.From≤b.From∧¬ (a.From=b.From∧a.Symbol=b.Symbol)) :
  k0.l2 K r j K 0=some (.inl (j:Int)):=by
 refine scan_from (L:=k0.l2 K r j) 0 (n:=j) (Nat.zero_le _) (by omega) (fun m t _ ht=>?_) (fun m=>by simp only [k0.l2];rw [if_neg (by omega)])
 obtain ⟨h1,h2⟩:=pw_rd hpw ht hj
 simp only [k0.l2,sym_eta]
 rw [if_pos (by omega),if_pos (Int.natCast_nonneg t),if_pos (by omega),wr (a:=(t:Int)+1) (by omega) (by omega)]
 by_cases e:(rd r.1.Moves (t:Int)).From=(rd r.1.Moves (j:Int)).From
 ·rw [if_pos e,if_neg (fun x=>h2 ⟨e,x⟩),if_neg (by omega)]
 ·rw [if_neg e,if_neg (by omega)]
theorem mv_l4 (K:Nat) (r:Automaton×Int) (i:Nat) (hl:r.1.Moves.length≤100000000) (hK:1000000000≤K) (h:∃ m ∈ r.1.Moves,m.To=(i:Int)∧m.From<(i:Int)):k0.l4 K r i K (false,0)=some (true,(r.1.Moves.length:Int)):=by
 obtain ⟨b,h1,h2⟩:=invLoop (n:=r.1.Moves.length) (k0.l4 K r i) (fun j b=>b=true↔∃ q:Nat,q<j∧(rd r.1.Moves (q:Int)).To=(i:Int)∧(rd r.1.Moves (q:Int)).From<(i:Int)) (fun m b j hj hI=>by
  simp only [k0.l4]
  rw [if_pos (by omega)]
  cases b with
  | true =>
   refine ⟨true,by rw [if_pos rfl,wr (a:=(j:Int)+1) (by omega) (by omega)],⟨fun _=>?_,fun _=>rfl⟩⟩
   obtain ⟨q,h1,h2⟩:=hI.1 rfl
   exact ⟨q,by omega,h2⟩
  | false =>
   have hno:∀ q:Nat,q<j→¬ ((rd r.1.Moves (q:Int)).To=(i:Int)∧(rd r.1.Moves (q:Int)).From<(i:Int)):=fun q hq hh=>by have:=hI.2 ⟨q,hq,hh⟩;cases this
   rw [if_neg (by decide),if_pos (Int.natCast_nonneg j),wr (a:=(j:Int)+1) (by omega) (by omega)]
   by_cases e:(rd r.1.Moves (j:Int)).To=(i:Int)
   ·rw [if_pos e]
    refine ⟨_,rfl,?_⟩
    rw [decide_eq_true_iff]
    constructor
    ·intro h;exact ⟨j,by omega,e,h⟩
    ·rintro ⟨q,h1,h2⟩
     rcases Nat.lt_succ_iff_lt_or_eq.1 h1 with h1 | rfl
     ·exact (hno q h1 h2).elim
     ·exact h2.2
   ·rw [if_neg e]
    refine ⟨_,rfl,⟨fun h=>(by cases h),?_⟩⟩
    rintro ⟨q,h1,h2⟩
    rcases Nat.lt_succ_iff_lt_or_eq.1 h1 with h1 | rfl
    ·exact (hno q h1 h2).elim
    ·exact (e h2.1).elim) (fun m s=>by simp only [k0.l4];rw [if_neg (by omega)]) K (by omega) false ⟨fun h=>(by cases h),fun ⟨q,h,_⟩=>absurd h (Nat.not_lt_zero _)⟩
 obtain ⟨m,hm,h3⟩:=h
 obtain ⟨q,hq,rfl⟩:=mem_rd.1 hm
 have:b=true:=h2.2 ⟨q,hq,h3⟩
 rw [h1,this]
theorem onX_ne {g:Grammar} {ps:List Place} {x:Symbol} (h:x ∈ syms g ps):onX g ps x≠[]:=by
 obtain ⟨p,h1,h2,h3⟩:=mem_syms.1 h
 exact List.ne_nil_of_mem (mem_onX.2 ⟨p,h1,h2,h3,rfl⟩)
theorem Moves_holds (g:Grammar):∃ K,k0 K g=some true:=by
 refine ⟨KW,?_⟩
 have hK:KW≤KW:=Nat.le_refl _
 have hKW:KW=140737488355328:=rfl
 obtain ⟨b,hbm,h1,h2⟩:=Build_both KW hK g
 unfold k0 m3
 rw [awake13 KW hK,Option.bind_some,if_neg (show ¬ (!true)=true by decide),h1,Option.bind_some,Option.bind_some]
 cases b with
 | false=>rw [if_neg (show ¬ false=true by decide)];rfl
 | true =>
  have hm:=hbm.1 rfl
  have hg:=may_bd hm
  rw [if_pos (show true=true from rfl)]
  cases ha:autOf g with
  | none=>rfl
  | some a =>
   obtain ⟨hl,i,hi,_,h⟩:=aut_AI hm ha
   have hml:=h.ml
   have:i*262144≤256*262144:=Nat.mul_le_mul_right _ hi
   simp only [List.length_nil] at hml
   rw [show resB (some a)=(a,(0:Int)) from rfl,if_neg (show ¬ ((a,(0:Int)).2≠0) from fun x=>x rfl),show (⟨(a,(0:Int)).1.States,(a,(0:Int)).1.Moves⟩:Automaton)=a from rfl,whole_spec KW hK hm hi hl h,Option.bind_some,if_neg (show ¬ (!true)=true by decide)]
   have e0:=scan_from (K:=KW) (L:=k0.l0 KW g (a,0)) 0 (n:=a.Moves.length) (Nat.zero_le _) (by omega) (fun m j _ hj=>by
    obtain ⟨q1,_,q3,q4,q5,q6,q7⟩:=h.mv (rd a.Moves (j:Int)) (mem_rd.2 ⟨j,hj,rfl⟩)
    have hp:RL g (rd a.States (rd a.Moves (j:Int)).From):=h.rl _ (rd_mem q1 q3)
    have hpl:=hp.len hg
    have hxl:=onX_len g (rd a.States (rd a.Moves (j:Int)).From) (rd a.Moves (j:Int)).Symbol
    have hcl:=(clos_onX hm hp (rd a.Moves (j:Int)).Symbol).len hg
    have hne:=onX_ne q6
    simp only [k0.l0]
    rw [if_pos (by omega),if_pos (Int.natCast_nonneg j),mv_l1 KW hK hm (a,0) h hj,Option.bind_some]
    dsimp only
    rw [(close_rl KW hK hm (onX_ok hp.2 _) (by omega)).1,Option.bind_some]
    unfold m3
    rw [Option.bind_some,if_neg (fun x=>x rfl),if_neg (fun e=>hne (List.length_eq_zero_iff.1 (by omega))),if_pos q4,if_pos q5,q7,SamePl_spec KW _ _ (Nat.lt_of_le_of_lt hcl (by omega)) (Nat.le_trans hcl (by omega)),Option.bind_some,if_neg (by simp),mv_l2 KW (a,0) hj (by show a.Moves.length≤_;omega) (by omega) h.pw,brk_l,wr (a:=(j:Int)+1) (by omega) (by omega)]) (fun m=>by simp only [k0.l0];rw [if_neg (by omega)])
   have hpos:=h.pos
   have e3:=scan_from (K:=KW) (L:=k0.l3 KW (a,0)) 1 (n:=a.States.length) hpos (by omega) (fun m j h1 hj=>by
    simp only [k0.l3]
    rw [if_pos (by omega),mv_l4 KW (a,0) j (by show a.Moves.length≤_;omega) (by omega) (h.reach j (by omega) hj),Option.bind_some]
    dsimp only
    rw [if_neg (by decide),wr (a:=(j:Int)+1) (by omega) (by omega)]) (fun m=>by simp only [k0.l3];rw [if_neg (by omega)])
   rw [show (0:Int)=((0:Nat):Int) from rfl,show (1:Int)=((1:Nat):Int) from rfl]
   rw [show (((0:Nat):Int))=0 from rfl] at e0 ⊢
   rw [e0,brk_l,e3,brk_l]
   obtain ⟨b2,hb2,hbm2⟩:=rMay_spec KW (by omega) g
   rw [hb2,Option.bind_some,hbm2.2 hm]
end Go.Proofs.Ytgmnohjaciemmaa

