import Derived.Test.YtcoineklodmbnaaGreatW15
set_option linter.unusedVariables false
set_option linter.unusedSimpArgs false
set_option linter.unusedSectionVars false
namespace Go.Proofs.YtcoineklodmbnaaGreat
open S
set_option maxRecDepth 100000
section
open S Go.Sort
set_option maxRecDepth 100000
end
section
open S Go.Sort
set_option maxRecDepth 100000
end
theorem rletter_spec (K:Nat)(c:Int):∃ b,pb K c=some b∧(b=true↔letterP c):=by
 unfold pb letterP
 repeat' split
 all_goals refine ⟨_,rfl,?_⟩
 all_goals first | simp only [true_iff,decide_eq_true_eq] | skip
 all_goals omega
theorem rdigit_spec (K:Nat)(c:Int):∃ b,qc K c=some b∧(b=true↔48≤c∧c≤57):=by
 unfold qc
 repeat' split
 all_goals refine ⟨_,rfl,?_⟩
 all_goals simp only [decide_eq_true_eq,Bool.false_eq_true,false_iff]
 all_goals omega
theorem rName_spec (K:Nat)(hK:1000≤K)(s:ByteArray):∃ b,Q7 K s=some b∧(b=true↔nameP s):=by
 unfold Q7 nameP
 by_cases h1:(s.size:Int)<1
 ·rw [if_pos h1];exact ⟨_,rfl,by simp;omega⟩
 rw [if_neg h1]
 by_cases h2:32<(s.size:Int)
 ·rw [if_pos h2];exact ⟨_,rfl,by simp;omega⟩
 rw [if_neg h2];have h0:0<(s.size:Int):=by omega
 by_cases h3:s=(⟨#[115,116,97,114,116]⟩:ByteArray)
 ·rw [if_pos h3];exact ⟨_,rfl,by simp [h3]⟩
 rw [if_neg h3,if_pos h0];obtain ⟨b,hb,hl⟩:=rletter_spec K (bt s 0);rw [hb,Option.bind_some]
 cases b with
 | false=>exact ⟨false,rfl,by simp only [Bool.false_eq_true,false_iff];exact fun h=>absurd (hl.2 h.2.2.2.1) (by decide)⟩
 | true =>
  rw [if_neg (by decide)];rcases ask_all (n:=s.size) (K:=K) (L:=Q7.l0 K s) (p:=fun i=>moreP (bt s (i:Int))) (by omega) (fun m i hi=>by
   obtain ⟨q,hq,hm⟩:=rletter_spec K (bt s (i:Int));obtain ⟨q2,hq2,hm2⟩:=rdigit_spec K (bt s (i:Int));simp only [Q7.l0];rw [if_pos (by omega),if_pos (Int.natCast_nonneg i),hq,Option.bind_some,wr (a:=(i:Int)+1) (by omega) (by omega)];unfold moreP
   cases q with
   | true=>exact .inl ⟨.inl (hm.1 rfl),rfl⟩
   | false =>
    simp only [Bool.not_false,if_true,hq2,Option.bind_some]
    cases q2 with
    | true=>exact .inl ⟨.inr (hm2.1 rfl),rfl⟩
    | false=>exact .inr ⟨fun h=>h.elim (fun h=>absurd (hm.2 h) (by decide)) (fun h=>absurd (hm2.2 h) (by decide)),rfl⟩) (fun m=>by simp only [Q7.l0];rw [if_neg (by omega)]) with ⟨h4,h5⟩|⟨h4,h5⟩
  ·rw [h4];exact ⟨true,rfl,by simp only [true_iff];exact ⟨by omega,by omega,h3,hl.1 rfl,h5⟩⟩
  ·rw [h4];exact ⟨false,rfl,by simp only [Bool.false_eq_true,false_iff];exact fun h=>h5 h.2.2.2.2⟩
open Classical in
open Classical in
theorem find_spec (K:Nat)(hK:1000≤K)(ns:List ByteArray)(hl:ns.length≤64)(s:ByteArray):G8 K ns s=some (match firstOf (fun i=>if rd ns (i:Int)=s then some (i:Int) else none) ns.length 0 with | some i=>i | none=>-1):=by
 have:=scan ns.length (G8.l0 K ns s) (fun i=>if rd ns (i:Int)=s then some (i:Int) else none) (fun m i hi=>by
  simp only [G8.l0];rw [if_pos (by omega),if_pos (Int.natCast_nonneg i),wr (a:=(i:Int)+1) (by omega) (by omega)]
  split <;> rfl) (fun m=>by simp only [G8.l0];rw [if_neg (by omega)]) ns.length 0 K (by omega) (by omega)
 rw [show ((0:Nat):Int)=0 from rfl] at this;unfold G8;rw [this];generalize firstOf _ _ _=o;cases o <;> rfl
theorem find_at (K:Nat)(hK:1000≤K)(ns:List ByteArray)(hl:ns.length≤64)(i:Nat)(hi:i<ns.length):∃ q,G8 K ns (rd ns (i:Int))=some q∧(q=(i:Int)↔∀ j:Nat,j<i→rd ns (j:Int)≠rd ns (i:Int)):=by
 refine ⟨_,find_spec K hK ns hl _,?_⟩
 cases hf:firstOf (fun k=>if rd ns (k:Int)=rd ns (i:Int) then some (k:Int) else none) ns.length 0 with
 | none =>
  have:=firstOf_none.1 hf i (by omega) (by omega);rw [if_pos rfl] at this;cases this
 | some r =>
  obtain ⟨j,_,h2,h3,h4⟩:=firstOf_some hf
  split at h3
  ·rename_i he
   cases h3;simp only;constructor
   ·intro e k hk hke;have e:j=i:=by omega
    subst e;have:=h4 k (by omega) hk;rw [if_pos hke] at this;cases this
   ·intro h;rcases Nat.lt_trichotomy j i with hlt|rfl|hlt
    ·exact absurd he (h j hlt)
    ·rfl
    ·have:=h4 i (by omega) hlt;rw [if_pos rfl] at this;cases this
  ·cases h3
theorem rnames_spec (K:Nat)(hK:1000≤K)(g:Grammar)(h1:1≤g.Names.length)(h2:g.Names.length≤64):(V4.l0 K g K 0=some (.inl (g.Names.length:Int))∧namesP g.Names)∨(V4.l0 K g K 0=some (.inr false)∧¬ namesP g.Names):=by
 rcases ask_all (n:=g.Names.length) (K:=K) (L:=V4.l0 K g) (p:=fun i=>nameP (rd g.Names (i:Int))∧∀ j:Nat,j<i→rd g.Names (j:Int)≠rd g.Names (i:Int)) (by omega) (fun m i hi=>by
  obtain ⟨b,hb,hp⟩:=rName_spec K hK (rd g.Names (i:Int));obtain ⟨q,hq,hf⟩:=find_at K hK g.Names h2 i hi;simp only [V4.l0];rw [if_pos (by omega),if_pos (Int.natCast_nonneg i),hb,Option.bind_some,wr (a:=(i:Int)+1) (by omega) (by omega)]
  cases b with
  | false=>exact .inr ⟨fun h=>absurd (hp.2 h.1) (by decide),rfl⟩
  | true =>
   rw [if_neg (by decide),hq,Option.bind_some]
   by_cases he:q=(i:Int)
   ·rw [if_neg (fun h=>h he)];exact .inl ⟨⟨hp.1 rfl,hf.1 he⟩,rfl⟩
   ·rw [if_pos he];exact .inr ⟨fun h=>he (hf.2 h.2),rfl⟩) (fun m=>by simp only [V4.l0];rw [if_neg (by omega)]) with ⟨h4,h5⟩|⟨h4,h5⟩
 ·refine .inl ⟨h4,h1,h2,fun s hs=>?_,(nodup_rd _).2 fun i hi=>(h5 i hi).2⟩;obtain ⟨i,hi,rfl⟩:=List.getElem_of_mem hs;have:=(h5 i hi).1
  rwa [rd_nat,List.getD_eq_getElem?_getD,List.getElem?_eq_getElem hi] at this
 ·exact .inr ⟨h4,fun h=>h5 fun i hi=>⟨h.2.2.1 _ (rd_mem (Int.natCast_nonneg i) (by omega)),(nodup_rd _).1 h.2.2.2 i hi⟩⟩
theorem rsymbol_spec (K:Nat)(s:Symbol)(n:Int):∃ b,qb K s n=some b∧(b=true↔symP s n):=by
 unfold qb symP
 repeat' split
 all_goals refine ⟨_,rfl,?_⟩
 all_goals simp only [decide_eq_true_eq,Bool.false_eq_true,false_iff]
 all_goals omega
theorem rrule_spec (K:Nat)(hK:1000≤K)(r:Rule)(n:Int):(J5 K r n=some ((sumR r:Int),true)∧ruleP n r)∨(∃ q,J5 K r n=some (q,false)∧¬ ruleP n r):=by
 unfold J5
 by_cases h1:(r.Conj.length:Int)<1
 ·rw [if_pos h1];exact .inr ⟨_,rfl,fun h=>by have:=h.1;omega⟩
 rw [if_neg h1]
 by_cases h2:8<(r.Conj.length:Int)
 ·rw [if_pos h2];exact .inr ⟨_,rfl,fun h=>by have:=h.2.1;omega⟩
 rw [if_neg h2];have hs:=scanL r.Conj (J5.l0 K r n) (ruleB n) (fun i s=>0≤s∧s≤64*i) (fun m s i hi hI=>by
  unfold ruleB;simp only [J5.l0];rw [if_pos (by omega),if_pos (Int.natCast_nonneg i),wr (a:=(i:Int)+1) (by omega) (by omega)]
  by_cases h64:64<((rd r.Conj (i:Int)).Seq.length:Int)
  ·rw [if_pos h64,if_neg (fun h=>by have:=h.1;omega)]
  rw [if_neg h64,wr (by omega) (by omega)];rcases ask_all2 (n:=(rd r.Conj (i:Int)).Seq.length) (K:=K) (L:=J5.l1 K r n i) (p:=fun j=>symP (rd (rd r.Conj (i:Int)).Seq (j:Int)) n) (by omega) (fun m j hj=>by
   obtain ⟨b,hb,hp⟩:=rsymbol_spec K (rd ((rd r.Conj (i:Int)).Seq) (j:Int)) n;simp only [J5.l1];rw [if_pos (by omega),if_pos (Int.natCast_nonneg j),hb,Option.bind_some,wr (a:=(j:Int)+1) (by omega) (by omega)]
   cases b with
   | true=>exact .inl ⟨hp.1 rfl,rfl⟩
   | false=>exact .inr ⟨fun h=>absurd (hp.2 h) (by decide),rfl⟩) (fun m=>by simp only [J5.l1];rw [if_neg (by omega)]) with ⟨h4,h5⟩|⟨h4,h5⟩
  ·rw [h4,if_pos ⟨by omega,all_rd.1 h5⟩];rfl
  ·rw [h4,if_neg (fun h=>h5 (all_rd.2 h.2))];rfl) (fun m s=>by simp only [J5.l0];rw [if_neg (by omega)]) (fun s i hi hI s' h=>by
   unfold ruleB at h
   split at h
   ·rename_i hc
    cases h;have:=hc.1;exact ⟨by omega,by push_cast;omega⟩
   ·cases h) K (by omega) 0 ⟨by omega,by omega⟩
 rw [hs];rcases ruleB_run n r.Conj 0 with ⟨h4,h5⟩|⟨h4,h5⟩
 ·rw [h4];exact .inl ⟨by simp only [brk,Option.bind_some,Int.zero_add];rfl,by omega,by omega,h5⟩
 ·rw [h4];exact .inr ⟨0,rfl,fun h=>h5 h.2.2⟩
theorem rMay_spec (K:Nat)(hK:1000≤K)(g:Grammar):∃ b,V4 K g=some b∧(b=true↔mayP g):=by
 unfold V4 mayP
 by_cases h1:(g.Names.length:Int)<1
 ·rw [if_pos h1];exact ⟨_,rfl,by simp only [Bool.false_eq_true,false_iff];exact fun h=>by have:=h.1.1;omega⟩
 rw [if_neg h1]
 by_cases h2:64<(g.Names.length:Int)
 ·rw [if_pos h2];exact ⟨_,rfl,by simp only [Bool.false_eq_true,false_iff];exact fun h=>by have:=h.1.2.1;omega⟩
 rw [if_neg h2]
 by_cases h3:g.Start<0
 ·rw [if_pos h3];exact ⟨_,rfl,by simp only [Bool.false_eq_true,false_iff];exact fun h=>by have:=h.2.1;omega⟩
 rw [if_neg h3]
 by_cases h4:(g.Names.length:Int)≤g.Start
 ·rw [if_pos h4];exact ⟨_,rfl,by simp only [Bool.false_eq_true,false_iff];exact fun h=>by have:=h.2.2.1;omega⟩
 rw [if_neg h4]
 by_cases h5:(g.Rules.length:Int)<1
 ·rw [if_pos h5];exact ⟨_,rfl,by simp only [Bool.false_eq_true,false_iff];exact fun h=>by have:=h.2.2.2.1;omega⟩
 rw [if_neg h5]
 by_cases h6:256<(g.Rules.length:Int)
 ·rw [if_pos h6];exact ⟨_,rfl,by simp only [Bool.false_eq_true,false_iff];exact fun h=>by have:=h.2.2.2.2.1;omega⟩
 rw [if_neg h6];rcases rnames_spec K hK g (by omega) (by omega) with ⟨h7,h8⟩|⟨h7,h8⟩
 rotate_left
 ·rw [h7];exact ⟨false,rfl,by simp only [Bool.false_eq_true,false_iff];exact fun h=>h8 h.1⟩
 rw [h7];simp only [brk,Option.bind_some];have hs:=scanL (τ:=Int×Int) (ρ:=Bool) g.Rules (fun m s=>(V4.l1 K g m (s.1.1,s.1.2,s.2)).map fun | .inl (a,b,c)=>.inl ((a,b),c) | .inr r=>.inr r) (rB (g.Names.length:Int)) (fun i s=>-1≤s.1∧s.1≤i∧0≤s.2∧s.2≤512*i) (fun m s i hi hI=>by
  unfold rB;simp only [V4.l1];rw [if_pos (by omega),if_pos (Int.natCast_nonneg i),wr (a:=(i:Int)+1) (by omega) (by omega),wr (a:=s.1+1) (by omega) (by omega)]
  by_cases q0:(rd g.Rules (i:Int)).Head<0
  ·rw [if_pos q0,if_pos q0];rfl
  rw [if_neg q0,if_neg q0]
  by_cases q1:(rd g.Rules (i:Int)).Head≠s.1∧(rd g.Rules (i:Int)).Head≠s.1+1
  ·rw [if_pos q1.1,if_pos q1.2,if_pos q1];rfl
  rw [if_neg q1]
  by_cases q2:(g.Names.length:Int)≤(rd g.Rules (i:Int)).Head
  ·rw [if_pos q2,if_pos q2]
   by_cases q3:(rd g.Rules (i:Int)).Head≠s.1
   ·rw [if_pos q3,if_neg (fun h=>q1 ⟨q3,h⟩)];rfl
   ·rw [if_neg q3];rfl
  rw [if_neg q2,if_neg q2];have e:(if (rd g.Rules (i:Int)).Head≠s.1 then if (rd g.Rules (i:Int)).Head≠s.1+1 then some (.inr (.inr false)) else some (.inl ()) else some (.inl ()):Option (Unit ⊕ ((Int×Int×Int) ⊕ Bool)))=some (.inl ()):=by
   by_cases q3:(rd g.Rules (i:Int)).Head≠s.1
   ·rw [if_pos q3,if_neg (fun h=>q1 ⟨q3,h⟩)]
   ·rw [if_neg q3]
  rw [e];simp only [brk,Option.bind_some];rcases rrule_spec K hK (rd g.Rules (i:Int)) (g.Names.length:Int) with ⟨q5,q6⟩|⟨q,q5,q6⟩
  ·have:=sumR_le q6;rw [q5,Option.bind_some,if_pos q6];simp only [Bool.not_true,Bool.false_eq_true,if_false];rw [wr (a:=s.2+(sumR (rd g.Rules (i:Int)):Int)) (by omega) (by omega)]
  ·rw [q5,Option.bind_some,if_neg q6];rfl) (fun m s=>by simp only [V4.l1];rw [if_neg (by omega)];rfl) (fun s i hi hI s' h=>by
  unfold rB at h
  split at h
  ·cases h
  split at h
  ·cases h
  split at h
  ·cases h
  split at h
  ·rename_i hr
   have:=sumR_le hr;cases h;refine ⟨by simp only;omega,by simp only;push_cast;omega,by simp only;omega,by simp only;push_cast;omega⟩
  ·cases h) K (by omega) (-1,0) ⟨by decide,by decide,by decide,by decide⟩
 have hne:∃ r rs',g.Rules=r::rs':=by
  cases hr:g.Rules with
  | nil=>rw [hr] at h5;simp at h5
  | cons r rs'=>exact ⟨r,rs',rfl⟩
 obtain ⟨r0,rs0,hr0⟩:=hne;have hrd:rd g.Rules 0=r0:=by rw [hr0];rfl
 by_cases hneg:r0.Head<0
 ·have e:runL (rB (g.Names.length:Int)) (-1,0) g.Rules = .inr false:=by rw [hr0];unfold runL rB;rw [if_pos hneg]
  rw [e] at hs;have e2:V4.l1 K g K (-1,0,0)=some (.inr false):=by
   simp only at hs
   cases hl:V4.l1 K g K (-1,0,0) with
   | none=>rw [hl] at hs;cases hs
   | some x =>
    rw [hl] at hs
    cases x with
    | inl x=>cases hs
    | inr q=>cases hs;rfl
  rw [e2];exact ⟨false,rfl,by simp only [Bool.false_eq_true,false_iff];exact fun h=>by have:=h.2.2.2.2.2.1;rw [hrd] at this;omega⟩
 rcases rB_run (g.Names.length:Int) g.Rules (-1,0) (.inr (.inl ⟨r0,rs0,hr0,.inl (by omega)⟩)) with ⟨s',q5,q6,q7⟩|⟨q5,q6⟩
 ·rw [q5] at hs;have e:∃ c,V4.l1 K g K (-1,0,0)=some (.inl (s'.1,s'.2,c)):=by
   simp only at hs
   cases hl:V4.l1 K g K (-1,0,0) with
   | none=>rw [hl] at hs;cases hs
   | some x =>
    rw [hl] at hs
    cases x with
    | inl x=>obtain ⟨a,b,c⟩:=x;simp only [Option.map_some,Option.some.injEq,Sum.inl.injEq,Prod.mk.injEq] at hs;exact ⟨c,by rw [← hs.1]⟩
    | inr q=>cases hs
  obtain ⟨c,hl⟩:=e;rw [hl];simp only [Option.bind_some];rw [wr (by omega) (by omega)];simp only at q7 q6
  by_cases q8:s'.1=(g.Names.length:Int)-1
  ·rw [if_pos q8];refine ⟨_,rfl,?_⟩;rw [decide_eq_true_eq];have hc:=q6.1 q8;have hz:r0.Head=0:=by
    have:=hc;rw [hr0,chainP] at this;omega
   exact ⟨fun h=>⟨h8,by omega,by omega,by omega,by omega,hrd ▸ hz,hc,by omega⟩,fun h=>by have:=h.2.2.2.2.2.2.2;omega⟩
  ·rw [if_neg q8];exact ⟨_,rfl,by simp only [Bool.false_eq_true,false_iff];exact fun h=>q8 (q6.2 h.2.2.2.2.2.2.1)⟩
 ·rw [q5] at hs;have e:V4.l1 K g K (-1,0,0)=some (.inr false):=by
   simp only at hs
   cases hl:V4.l1 K g K (-1,0,0) with
   | none=>rw [hl] at hs;cases hs
   | some x =>
    rw [hl] at hs
    cases x with
    | inl x=>cases hs
    | inr q=>cases hs;rfl
  rw [e];exact ⟨false,rfl,by simp only [Bool.false_eq_true,false_iff];exact fun h=>q6 h.2.2.2.2.2.2.1⟩
theorem May_eq (K:Nat)(hK:1000≤K)(g:Grammar):V4 K g=y8 K g:=by
 obtain ⟨a,ha,ha'⟩:=gMay_spec K hK g;obtain ⟨b,hb,hb'⟩:=rMay_spec K hK g;rw [ha,hb]
 congr 1
 have:b=true↔a=true:=hb'.trans ha'.symm;cases a <;> cases b <;> simp_all
section
open S Go.Sort
set_option maxRecDepth 100000
end
section
open S Go.Sort
set_option maxRecDepth 100000
theorem needs_l2 (K:Nat)(hK:1000≤K)(g:Grammar)(b:Int)(neg:Bool)(i j:Int)(h:(rd (rd g.Rules i).Conj j).Seq.length≤64) :
  (needC b neg (rd (rd g.Rules i).Conj j)=true∧Q3.l2 K g b neg i j K 0=some (.inr (.inr (.inr true))))∨(needC b neg (rd (rd g.Rules i).Conj j)=false∧∃ q,Q3.l2 K g b neg i j K 0=some (.inl q)):=by
 unfold needC
 by_cases hn:(rd (rd g.Rules i).Conj j).Neg=neg
 ·have:=scan (rd (rd g.Rules i).Conj j).Seq.length (Q3.l2 K g b neg i j) (fun k=>if (fun s:Symbol=>decide (s.Name=b)) (rd (rd (rd g.Rules i).Conj j).Seq (k:Int))=true then some (.inr (.inr true)) else none) (fun m k hk=>by
   simp only [Q3.l2];rw [if_pos (by omega),if_pos hn,if_pos (by omega),wr (a:=(k:Int)+1) (by omega) (by omega)];simp only [decide_eq_true_eq]
   split <;> rfl) (fun m=>by simp only [Q3.l2];rw [if_neg (by omega)]) (rd (rd g.Rules i).Conj j).Seq.length 0 K (by omega) (by omega)
  rw [show ((0:Nat):Int)=0 from rfl] at this;have h2:=first_any (rd (rd g.Rules i).Conj j).Seq (fun s=>decide (s.Name=b)) (.inr (.inr true):Int ⊕ (Int ⊕ Bool)) ((rd (rd g.Rules i).Conj j).Seq.length:Int);rw [this,decide_eq_true hn,Bool.true_and];generalize firstOf _ _ _=o at h2
  cases hb:(rd (rd g.Rules i).Conj j).Seq.any fun s=>decide (s.Name=b) with
  | true =>
   rw [hb,if_pos rfl] at h2
   cases o with
   | none=>cases h2
   | some q=>cases h2;exact .inl ⟨rfl,rfl⟩
  | false =>
   rw [hb,if_neg (by decide)] at h2
   cases o with
   | none=>exact .inr ⟨rfl,_,rfl⟩
   | some q=>cases h2
 ·obtain ⟨K',rfl⟩:∃ q,K=q+1:=⟨K-1,by omega⟩
  refine .inr ⟨by rw [decide_eq_false hn];rfl,?_⟩;simp only [Q3.l2]
  by_cases h0:(0:Int)<((rd (rd g.Rules i).Conj j).Seq.length:Int)
  ·rw [if_pos h0,if_neg hn];exact ⟨_,rfl⟩
  ·rw [if_neg h0];exact ⟨_,rfl⟩
theorem needs_l1 (K:Nat)(hK:1000≤K)(g:Grammar)(b:Int)(neg:Bool)(i:Int)(h:RuleBd (rd g.Rules i)) :
  ((rd g.Rules i).Conj.any (needC b neg)=true∧Q3.l1 K g b neg i K 0=some (.inr (.inr true)))∨((rd g.Rules i).Conj.any (needC b neg)=false∧∃ q,Q3.l1 K g b neg i K 0=some (.inl q)):=by
 have h8:=h.1;have:=scan (rd g.Rules i).Conj.length (Q3.l1 K g b neg i) (fun k=>if needC b neg (rd (rd g.Rules i).Conj (k:Int))=true then some (.inr true) else none) (fun m k hk=>by
  simp only [Q3.l1];rw [if_pos (by omega),if_pos (by omega),wr (a:=(k:Int)+1) (by omega) (by omega)];rcases needs_l2 K hK g b neg i k (h.2 _ (rd_mem (Int.natCast_nonneg k) (by omega))) with ⟨h1,h2⟩|⟨h1,q,h2⟩
  ·rw [h2,h1];rfl
  ·rw [h2,h1];rfl) (fun m=>by simp only [Q3.l1];rw [if_neg (by omega)]) (rd g.Rules i).Conj.length 0 K (by omega) (by omega)
 rw [show ((0:Nat):Int)=0 from rfl] at this;have h2:=first_any (rd g.Rules i).Conj (needC b neg) (.inr true:Int ⊕ Bool) ((rd g.Rules i).Conj.length:Int);rw [this];generalize firstOf _ _ _=o at h2
 cases hb:(rd g.Rules i).Conj.any (needC b neg) with
 | true =>
  rw [hb,if_pos rfl] at h2
  cases o with
  | none=>cases h2
  | some q=>cases h2;exact .inl ⟨rfl,rfl⟩
 | false =>
  rw [hb,if_neg (by decide)] at h2
  cases o with
  | none=>exact .inr ⟨rfl,_,rfl⟩
  | some q=>cases h2
theorem needs_spec (K:Nat)(hK:1000≤K)(g:Grammar)(hg:Bd g)(a b:Int)(neg:Bool):Q3 K g a b neg=some (need g a b neg):=by
 have h256:=hg.1;have:=scan g.Rules.length (Q3.l0 K g a b neg) (fun i=>if needR a b neg (rd g.Rules (i:Int))=true then some true else none) (fun m i hi=>by
  simp only [Q3.l0];rw [if_pos (by omega),if_pos (by omega),wr (a:=(i:Int)+1) (by omega) (by omega)]
  by_cases hh:(rd g.Rules (i:Int)).Head=a
  ·have e:needR a b neg (rd g.Rules (i:Int))=(rd g.Rules (i:Int)).Conj.any (needC b neg):=by unfold needR;rw [decide_eq_true hh,Bool.true_and]
   rw [if_neg (fun h=>h hh),e];rcases needs_l1 K hK g b neg i (hg.2 _ (rd_mem (Int.natCast_nonneg i) (by omega))) with ⟨h1,h2⟩|⟨h1,q,h2⟩
   ·rw [h2,h1];rfl
   ·rw [h2,h1];rfl
  ·have e:needR a b neg (rd g.Rules (i:Int))=false:=by unfold needR;rw [decide_eq_false hh,Bool.false_and]
   rw [if_pos hh,e];rfl) (fun m=>by simp only [Q3.l0];rw [if_neg (by omega)]) g.Rules.length 0 K (by omega) (by omega)
 rw [show ((0:Nat):Int)=0 from rfl] at this;have h2:=first_any g.Rules (needR a b neg) true (g.Rules.length:Int);unfold Q3 need;rw [this];generalize firstOf _ _ _=o at h2
 cases hb:g.Rules.any (needR a b neg) with
 | true =>
  rw [hb,if_pos rfl] at h2
  cases o with
  | none=>cases h2
  | some q=>cases h2;rfl
 | false =>
  rw [hb,if_neg (by decide)] at h2
  cases o with
  | none=>rfl
  | some q=>cases h2
theorem refEdges_l2 (K:Nat)(hK:1000≤K)(g:Grammar)(hg:Bd g)(a b:Nat)(s:List Edge)(hs:s.length+2≤100000):M4.l2 K g a b K (s,0)=some (s++refB g a b,2):=by
 obtain ⟨K',rfl⟩:∃ q,K=q+3:=⟨K-3,by omega⟩
 have e0:=needs_spec (K'+3) hK g hg a b false;have e1:=needs_spec (K'+3) hK g hg a b true;have d0:decide ((0:Int)=1)=false:=rfl;have d1:decide ((1:Int)=1)=true:=rfl;have w0:IntKind.wrap .i64 ((0:Int)+1)=1:=rfl;have w1:IntKind.wrap .i64 ((1:Int)+1)=2:=rfl;unfold refB;simp only [M4.l2];rw [if_pos (by decide),d0,e0,Option.bind_some,w0]
 cases need g a b false with
 | true =>
  rw [if_pos rfl,if_pos (by simp only [List.length_cons,List.length_nil];omega),if_pos (by decide),d1,e1,Option.bind_some,w1]
  cases need g a b true with
  | true=>rw [if_pos rfl,if_pos (by simp only [List.length_append,List.length_cons,List.length_nil];omega),if_neg (by decide)];simp
  | false=>rw [if_neg (by decide),if_neg (by decide)];simp
 | false =>
  rw [if_neg (by decide),if_pos (by decide),d1,e1,Option.bind_some,w1]
  cases need g a b true with
  | true=>rw [if_pos rfl,if_pos (by simp only [List.length_cons,List.length_nil];omega),if_neg (by decide)];simp
  | false=>rw [if_neg (by decide),if_neg (by decide)];simp
theorem refEdges_spec (K:Nat)(hK:1000≤K)(g:Grammar)(hg:Bd g)(hn:g.Names.length≤64):∃ q,M4.l0 K g K ([],0)=some (refL g,q):=by
 refine ⟨_,(appLoop (n:=g.Names.length) (c:=128) (B:=50000) (refA g g.Names.length) (fun i=>by have:=refA_len g g.Names.length i;omega) (fun m s i hi hs=>?_) (fun m s=>by simp only [M4.l0];rw [if_neg (by omega)]) K (by omega) [] (by simp only [List.length_nil];omega))⟩;simp only [M4.l0];have h1:=appLoop (n:=g.Names.length) (c:=2) (B:=90000) (L:=M4.l1 K g i) (refB g i) (refB_len g i) (fun m s j hj hs=>by
  simp only [M4.l1];rw [if_pos (by omega),refEdges_l2 K hK g hg i j s (by omega),Option.bind_some,wr (a:=(j:Int)+1) (by omega) (by omega)]) (fun m s=>by simp only [M4.l1];rw [if_neg (by omega)]) K (by omega) s (by omega)
 rw [if_pos (by omega),h1,Option.bind_some,wr (a:=(i:Int)+1) (by omega) (by omega)];rfl
theorem Edges_both (K:Nat)(hK:200000≤K)(g:Grammar):∃ b,(b=true↔mayP g)∧y8 K g=some b∧V4 K g=some b∧L6 K g=some (if b=true then (edgesOf g,0) else ([],600))∧M4 K g=some (if b=true then (edgesOf g,0) else ([],600)):=by
 obtain ⟨b,hb,hbm⟩:=gMay_spec K (by omega) g;obtain ⟨b',hb',_,he⟩:=Edges_spec K hK g;rw [hb] at hb';cases hb';have hr:V4 K g=some b:=by rw [May_eq K (by omega)];exact hb
 refine ⟨b,hbm,hb,hr,he,?_⟩;unfold M4;rw [hr,Option.bind_some]
 cases b with
 | false=>rfl
 | true =>
  have hm:=hbm.1 rfl;obtain ⟨q,hq⟩:=refEdges_spec K (by omega) g (may_bd hm) hm.1.2.1;rw [if_neg (by decide),hq,Option.bind_some,if_pos rfl,edges_ref hm]
end
section
open S Go.Sort
set_option maxRecDepth 100000
namespace RT
theorem edgesMay_spec (names:Int)(es:List Edge)(hl:es.length<9223372036854775807)(K:Nat)(hK:es.length<K):∃ b,f8 K names es=some b∧(b=true↔May names es):=by
 unfold f8;obtain ⟨r,hr,hq⟩:=rounds (L:=f8.l0 K names es) (fun s=>∃ t:Nat,s=t∧t≤es.length∧Fit names (es.take t)) (fun s=>es.length-s.toNat)
  (fun r=>match r with | .inl _=>Fit names es | .inr b=>b=false∧¬ Fit names es) (fun s m hI=>by
   obtain ⟨t,rfl,ht,hf⟩:=hI;simp only [f8.l0]
   by_cases hlt:(t:Int)<es.length
   ·have hlt':t<es.length:=by omega
    have hm:=rd_mem (xs:=es) (Int.natCast_nonneg t) hlt;rw [if_pos hlt,if_pos (Int.natCast_nonneg t)];generalize hrd:rd es (t:Int)=e at hm
    by_cases a1:e.From<0
    ·exact .inl ⟨.inr false,by rw [if_pos a1],rfl,fun h=>by have:=h e hm;omega⟩
    by_cases a2:names≤e.From
    ·exact .inl ⟨.inr false,by rw [if_neg a1,if_pos a2],rfl,fun h=>by have:=h e hm;omega⟩
    by_cases a3:e.To<0
    ·exact .inl ⟨.inr false,by rw [if_neg a1,if_neg a2,if_pos a3],rfl,fun h=>by have:=h e hm;omega⟩
    by_cases a4:names≤e.To
    ·exact .inl ⟨.inr false,by rw [if_neg a1,if_neg a2,if_neg a3,if_pos a4],rfl,fun h=>by have:=h e hm;omega⟩
    rw [if_neg a1,if_neg a2,if_neg a3,if_neg a4,wr (by omega) (by omega)];refine .inr ⟨(t:Int)+1,⟨t+1,by simp,hlt',?_⟩,by omega,rfl⟩;intro x hx;rw [List.take_add_one,List.mem_append] at hx;rcases hx with hx|hx
    ·exact hf x hx
    ·have hg:=rd_get (xs:=es) (Int.natCast_nonneg t) hlt;rw [Int.toNat_natCast,hrd] at hg;rw [hg] at hx;simp at hx;subst hx;omega
   ·rw [if_neg hlt];refine .inl ⟨.inl (t:Int),rfl,?_⟩;have:t=es.length:=by omega
    subst this;simpa using hf) K 0 ⟨0,rfl,Nat.zero_le _,by intro e he;simp at he⟩ (by simpa using hK)
 rw [hr]
 cases r with
 | inl s =>
  by_cases h0:0≤names
  ·refine ⟨decide (names≤64),by simp [brk,h0],?_⟩;rw [decide_eq_true_eq];exact ⟨fun h=>⟨h0,h,hq⟩,fun h=>h.2.1⟩
  ·exact ⟨false,by simp [brk,h0],by simp only [Bool.false_eq_true,false_iff];exact fun h=>h0 h.1⟩
 | inr b=>obtain ⟨rfl,hq⟩:=hq;exact ⟨false,by simp [brk],by simp only [Bool.false_eq_true,false_iff];rintro ⟨_,_,h⟩;exact hq h⟩
theorem pass_spec (n:Nat)(es:List Edge)(hl:es.length<9223372036854775807)(hf:Fit n es)(G:Nat→Prop)(hG:∀ e ∈ es,∀ i j:Nat,e.From=i→e.To=j→G i→G j)(xs:List Bool)(hx:xs.length=n)(hs:∀ i:Nat,i<n→rd xs (i:Int)=true→G i)(K m:Nat)(hm:es.length<m) :
  ∃ r,M5.l1 K es m (xs,0)=some r∧(BLe xs r.1∧(∀ i:Nat,i<n→rd r.1 (i:Int)=true→G i)∧∀ e ∈ es,rd xs e.From=true→rd r.1 e.To=true):=by
 refine rounds (L:=M5.l1 K es) (fun s=>∃ t:Nat,s.2=t∧t≤es.length∧BLe xs s.1∧(∀ i:Nat,i<n→rd s.1 (i:Int)=true→G i)∧∀ e ∈ es.take t,rd xs e.From=true→rd s.1 e.To=true) (fun s=>es.length-s.2.toNat) _ (fun s m hI=>?_) m _ ⟨0,rfl,Nat.zero_le _,BLe.refl _,hs,by simp⟩ (by simpa using hm);obtain ⟨ys,t'⟩:=s;obtain ⟨t,rfl,ht,h1,h2,h3⟩:=hI;simp only at h1 h2 h3;simp only [M5.l1]
 by_cases hlt:(t:Int)<es.length
 ·have hlt':t<es.length:=by omega
  have hm:=rd_mem (xs:=es) (Int.natCast_nonneg t) hlt;have hg:=rd_get (xs:=es) (Int.natCast_nonneg t) hlt;rw [Int.toNat_natCast] at hg;rw [if_pos hlt,if_pos (Int.natCast_nonneg t)];generalize rd es (t:Int)=e at hm hg;obtain ⟨⟨f0,f1⟩,f2,f3⟩:=hf e hm;have hyl:ys.length=n:=by have:=h1.1;omega
  obtain ⟨p,hp⟩:=Int.eq_ofNat_of_zero_le f0;obtain ⟨q,hq⟩:=Int.eq_ofNat_of_zero_le f2;have htake:es.take (t+1)=es.take t++[e]:=by rw [List.take_add_one,hg];rfl
  rw [if_pos f0,if_pos (by omega),wr (by omega) (by omega)]
  by_cases hb:rd ys e.From=true
  ·rw [if_pos hb,if_pos f2,if_pos (by omega)];have hset:∀ j:Nat,rd (ys.set e.To.toNat true) (j:Int)=if q=j then true else rd ys (j:Int):=by
    intro j;rw [hq,Int.toNat_natCast,rd_set _ (by omega)]
   refine .inr ⟨_,⟨t+1,by simp,hlt',h1.trans ⟨by simp,fun i hi h=>?_⟩,fun i hi h=>?_,fun e' he' h=>?_⟩,by simp only;omega,rfl⟩
   ·rw [hset];split <;> first | rfl | exact h
   ·rw [hset] at h
    split at h
    ·rename_i hqi
     subst hqi;exact hG e hm p q hp hq (h2 p (by omega) (by rw [← hp];exact hb))
    ·exact h2 i hi h
   ·rw [htake,List.mem_append] at he';rcases he' with he'|he'
    ·have:=h3 e' he' h;obtain ⟨⟨_,_⟩,g2,g3⟩:=hf e' (List.mem_of_mem_take he');obtain ⟨u,hu⟩:=Int.eq_ofNat_of_zero_le g2;rw [hu] at this ⊢;rw [hset];split <;> first | rfl | exact this
    ·simp at he';subst he';have:=hset q;rw [if_pos rfl,← hq] at this;exact this
  ·rw [if_neg hb];refine .inr ⟨_,⟨t+1,by simp,hlt',h1,h2,fun e' he' h=>?_⟩,by simp only;omega,rfl⟩;rw [htake,List.mem_append] at he';rcases he' with he'|he'
   ·exact h3 e' he' h
   ·simp at he';subst he';refine absurd ?_ hb;rw [hp] at h ⊢;exact h1.2 p (by omega) h
 ·rw [if_neg hlt];have:t=es.length:=by omega
  subst this;rw [List.take_length] at h3;exact .inl ⟨_,rfl,h1,h2,h3⟩
theorem reached_spec (n:Nat)(hn:n≤64)(es:List Edge)(hl:es.length<9223372036854775807)(hf:Fit n es)(a:Nat)(ha:a<n)(K:Nat)(hK:64<K)(hK':es.length<K):∃ xs,M5 K n es a=some xs∧(xs.length=n∧∀ j:Nat,j<n→(rd xs (j:Int)=true↔Reach es a j)):=by
 unfold M5;rw [if_pos (Int.natCast_nonneg n),if_pos (by omega),if_pos (Int.natCast_nonneg a),if_pos (by simp;omega),Int.toNat_natCast,Int.toNat_natCast]
 let G:Nat→Prop:=fun j=>Reach es a j
 have hG:∀ e ∈ es,∀ i j:Nat,e.From=i→e.To=j→G i→G j:=fun e he i j h1 h2 hg=>by
  show Reach es a j;rw [← h2];exact .step (by rw [h1];exact hg) he
 have init1:∀ i:Nat,i<n→rd ((List.replicate n false).set a true) (i:Int)=true→G i:=by
  intro i hi h;rw [rd_set _ (by simp;omega)] at h
  split at h
  ·rename_i hai
   subst hai;exact .refl _
  ·rw [rd_rep _ hi] at h;cases h
 have init2:rd ((List.replicate n false).set a true) (a:Int)=true:=by rw [rd_set _ (by simp;omega),if_pos rfl]
 have init3:0+1≤((List.replicate n false).set a true).count true:=by
  have:true ∈ (List.replicate n false).set a true:=List.mem_of_getElem? (i:=a) (by simp [ha]);have:=List.count_pos_iff.2 this;omega
 obtain ⟨r,hr,hq1,hq2,hq3,hq4⟩:=rounds (L:=M5.l0 K n es) (fun s=>∃ t:Nat,s.2=t∧t≤n∧s.1.length=n∧(∀ i:Nat,i<n→rd s.1 (i:Int)=true→G i)∧rd s.1 (a:Int)=true∧((∀ e ∈ es,rd s.1 e.From=true→rd s.1 e.To=true)∨t+1≤s.1.count true)) (fun s=>n-s.2.toNat)
  (fun r=>r.1.length=n∧(∀ i:Nat,i<n→rd r.1 (i:Int)=true→G i)∧rd r.1 (a:Int)=true∧∀ e ∈ es,rd r.1 e.From=true→rd r.1 e.To=true) (fun s m hI=>by
   obtain ⟨xs,t'⟩:=s;obtain ⟨t,rfl,ht,h1,h2,h3,h4⟩:=hI;simp only at h1 h2 h3 h4;simp only [M5.l0]
   by_cases hlt:(t:Int)<n
   ·obtain ⟨⟨ys,u⟩,e1,e2,e3,e4⟩:=pass_spec n es hl hf G hG xs h1 h2 K K hK';simp only at e2 e3 e4;rw [if_pos hlt,e1,wr (by omega) (by omega)];refine .inr ⟨(ys,(t:Int)+1),⟨t+1,by simp,by omega,by have:=e2.1;simp only;omega,e3,e2.2 a (by omega) h3,?_⟩,by simp only;omega,rfl⟩
    by_cases he:xs=ys
    ·subst he;exact .inl e4
    ·have hc:=count_lt e2 he;rcases h4 with h4|h4
     ·
      refine .inl fun e he' hfr=>?_
      have hsub:∀ i:Nat,i<n→rd ys (i:Int)=true→rd xs (i:Int)=true:=by
       obtain ⟨⟨zs,v⟩,k1,_,k3,_⟩:=pass_spec n es hl hf (fun i=>rd xs (i:Int)=true) (fun e he i j h1 h2 hg=>by
        have:=h4 e he (by rw [h1];exact hg)
        rwa [h2] at this) xs h1 (fun i _ h=>h) K K hK'
       rw [e1] at k1;cases k1;exact k3
      obtain ⟨⟨f0,f1⟩,f2,f3⟩:=hf e he';obtain ⟨p,hp⟩:=Int.eq_ofNat_of_zero_le f0;obtain ⟨q,hq⟩:=Int.eq_ofNat_of_zero_le f2;simp only at hfr ⊢;rw [hp] at hfr;have:=h4 e he' (by rw [hp];exact hsub p (by omega) hfr);rw [hq] at this ⊢;exact e2.2 q (by omega) this
     ·exact .inr (by simp only;omega)
   ·rw [if_neg hlt];refine .inl ⟨_,rfl,h1,h2,h3,?_⟩;rcases h4 with h4|h4
    ·exact h4
    ·have:=List.count_le_length (a:=true) (l:=xs);omega) K ((List.replicate n false).set a true,0) ⟨0,rfl,Nat.zero_le _,by simp,init1,init2,.inr init3⟩ (by simp only [Int.toNat_zero];omega)
 rw [hr];obtain ⟨xs,t⟩:=r;simp only at hq1 hq2 hq3 hq4;refine ⟨xs,rfl,hq1,fun j hj=>⟨hq2 j hj,fun h=>?_⟩⟩;have:∀ x:Int,Reach es a x→rd xs x=true:=by
  intro x hx
  induction hx with
  | refl=>exact hq3
  | step _ he ih=>exact hq4 _ he ih
 exact this j h
theorem RReaches_spec (names:Int)(es:List Edge)(a b:Int)(hl:es.length<9223372036854775807)(K:Nat)(hK:64<K)(hK':es.length<K):∃ r,zb K names es a b=some r∧(r=true↔May names es∧(0≤a∧a<names)∧(0≤b∧b<names)∧Reach es a b):=by
 obtain ⟨m,hm,hm'⟩:=edgesMay_spec names es hl K hK';unfold zb;rw [hm];simp only [Option.bind_some]
 by_cases hmay:May names es
 ·have:=hm'.2 hmay;subst this;have hmay':=hmay;obtain ⟨h0,h1,hf⟩:=hmay';obtain ⟨n,rfl⟩:=Int.eq_ofNat_of_zero_le h0;rw [if_neg (by decide)]
  by_cases a1:a<0
  ·exact ⟨false,by rw [if_pos a1],by simp only [Bool.false_eq_true,false_iff];rintro ⟨_,_,_⟩;omega⟩
  by_cases a2:(n:Int)≤a
  ·exact ⟨false,by rw [if_neg a1,if_pos a2],by simp only [Bool.false_eq_true,false_iff];rintro ⟨_,_,_⟩;omega⟩
  by_cases a3:b<0
  ·exact ⟨false,by rw [if_neg a1,if_neg a2,if_pos a3],by simp only [Bool.false_eq_true,false_iff];rintro ⟨_,_,_,_⟩;omega⟩
  by_cases a4:(n:Int)≤b
  ·exact ⟨false,by rw [if_neg a1,if_neg a2,if_neg a3,if_pos a4],by simp only [Bool.false_eq_true,false_iff];rintro ⟨_,_,_,_⟩;omega⟩
  obtain ⟨i,rfl⟩:=Int.eq_ofNat_of_zero_le (show 0≤a by omega);obtain ⟨j,rfl⟩:=Int.eq_ofNat_of_zero_le (show 0≤b by omega);obtain ⟨xs,h2,h3,h4⟩:=reached_spec n (by omega) es hl hf i (by omega) K hK hK';rw [if_neg a1,if_neg a2,if_neg a3,if_neg a4,h2];simp only [Option.bind_some];rw [if_pos (by rw [h3];omega)];exact ⟨_,rfl,(h4 j (by omega)).trans ⟨fun h=>⟨hmay,by omega,by omega,h⟩,fun h=>h.2.2.2⟩⟩
 ·have:m=false:=by cases m;rfl;exact absurd (hm'.1 rfl) hmay
  subst this;exact ⟨false,rfl,by simp only [Bool.false_eq_true,false_iff];exact fun h=>hmay h.1⟩
theorem far_l2 (K:Nat)(hK:200000≤K)(n:Nat)(hn:n≤64)(es:List Edge)(fin:Int)(hf:Fit n es)(hl:es.length≤131072)(c:Int)(hc0:0≤c)(hc1:c≤64)(out0:List Int)(h0:FR n es fin out0 c c) :
  ∃ r:List Int×Int,P5.l2 K es (c+1) K (out0,0)=some r∧FR n es fin r.1 (c+1) (c+1):=by
 refine rounds (L:=P5.l2 K es (c+1)) (fun s=>∃ t:Nat,s.2=t∧t≤es.length∧FR n es fin s.1 c (c+1)∧∀ e ∈ es.take t,rd s.1 e.To=c→0≤rd s.1 e.From) (fun s=>es.length-s.2.toNat) (fun r=>FR n es fin r.1 (c+1) (c+1)) (fun s m hI=>?_) K _ ⟨0,rfl,Nat.zero_le _,⟨h0.fr,h0.len,h0.e0,h0.lo,h0.s2,fun x a b=>by have:=h0.hi x a b;simp only;omega,h0.ub,h0.s3⟩,by intro e he;simp at he⟩ (by show es.length-0<K;omega);obtain ⟨out,t'⟩:=s;obtain ⟨t,rfl,ht,hb,hd⟩:=hI;simp only at hb hd;simp only [P5.l2]
 by_cases hlt:(t:Int)<es.length
 ·have hlt':t<es.length:=by omega
  have hm:=rd_mem (xs:=es) (Int.natCast_nonneg t) hlt;have hg:=rd_get (xs:=es) (Int.natCast_nonneg t) hlt;rw [if_pos hlt,if_pos (Int.natCast_nonneg t)];rw [Int.toNat_natCast] at hg;generalize rd es (t:Int)=e at hm hg;obtain ⟨⟨f0,f1⟩,f2,f3⟩:=hf e hm;have hlen:=hb.len;rw [wr (a:=(t:Int)+1) (by omega) (by omega),wr (a:=c+1-1) (by omega) (by omega),if_pos f0,if_pos (by rw [hlen];exact f1)];have take:∀ x,x ∈ es.take (t+1)↔x ∈ es.take t∨x=e:=fun x=>by rw [List.take_add_one,hg];simp
  by_cases hneg:rd out e.From<0
  ·rw [if_pos hneg,if_pos f2,if_pos (by rw [hlen];exact f3)]
   by_cases hto:rd out e.To=c+1-1
   ·obtain ⟨g1,g2⟩:=hb.push hf hc0 hm (by omega) hneg;rw [if_pos hto];refine .inr ⟨_,⟨t+1,by simp,hlt',g1,fun x hx h1=>?_⟩,by simp only;omega,rfl⟩;simp only at h1 ⊢;obtain ⟨⟨x0,x1⟩,x2,x3⟩:=hf x (List.mem_of_mem_take hx);rw [g2 _ x2] at h1;rw [g2 _ x0]
    split at h1
    ·omega
    ·split
     ·omega
     ·rcases (take x).1 hx with hx|rfl
      ·exact hd x hx h1
      ·rename_i h3 ;exact absurd rfl h3
   ·rw [if_neg hto];refine .inr ⟨_,⟨t+1,by simp,hlt',hb,fun x hx h1=>?_⟩,by simp only;omega,rfl⟩;rcases (take x).1 hx with hx|rfl
    ·exact hd x hx h1
    ·simp only at h1;omega
  ·rw [if_neg hneg];refine .inr ⟨_,⟨t+1,by simp,hlt',hb,fun x hx h1=>?_⟩,by simp only;omega,rfl⟩;rcases (take x).1 hx with hx|rfl
   ·exact hd x hx h1
   ·simp only;omega
 ·rw [if_neg hlt];have:t=es.length:=by omega
  subst this;rw [List.take_length] at hd;refine .inl ⟨_,rfl,hb.fr,hb.len,hb.e0,hb.lo,hb.s2,hb.hi,hb.ub,fun e he h1 h2=>?_⟩;simp only at h1 h2 ⊢
  by_cases hlt2:rd out e.To<c
  ·exact hb.s3 e he h1 hlt2
  ·have e1:rd out e.To=c:=by omega
   obtain ⟨⟨x0,x1⟩,_⟩:=hf e he;exact ⟨hd e he e1,by rw [e1];exact hb.hi _ x0 x1⟩
theorem far_l0 (K:Nat)(n:Nat)(hn:n≤64)(m:Nat)(hm:n<m):∃ r,P5.l0 K n m (List.replicate n 0,0)=some r∧r.1=List.replicate n (-1):=by
 obtain ⟨r,hr,h1,h2⟩:=rounds (L:=P5.l0 K n) (fun s=>∃ t:Nat,s.2=t∧t≤n∧s.1.length=n∧∀ i:Int,0≤i→i<t→rd s.1 i = -1) (fun s=>n-s.2.toNat) (fun r=>r.1.length=n∧∀ i:Int,0≤i→i<n→rd r.1 i = -1) (fun s m hI=>by
  obtain ⟨xs,t'⟩:=s;obtain ⟨t,rfl,ht,hl,hv⟩:=hI;simp only at hl hv;simp only [P5.l0]
  by_cases hlt:(t:Int)<n
  ·rw [if_pos hlt,if_pos (Int.natCast_nonneg t),if_pos (by omega),wr (by omega) (by omega)];refine .inr ⟨_,⟨t+1,by simp,by omega,by simpa using hl,fun i a b=>?_⟩,by simp only;omega,rfl⟩;simp only;rw [rdi_set _ (by omega) (by omega) a]
   split
   ·rfl
   ·exact hv i a (by omega)
  ·rw [if_neg hlt];have:t=n:=by omega
   subst this;exact .inl ⟨_,rfl,hl,hv⟩) m (List.replicate n 0,0) ⟨0,rfl,Nat.zero_le _,by simp,fun i a b=>by omega⟩ (by show n-0<m;omega)
 exact ⟨r,hr,rdi_ext h1 (by simp) fun i a b=>by rw [h2 i a b,rdi_rep _ a b]⟩
theorem far_spec (K:Nat)(hK:200000≤K)(n:Nat)(hn:n≤64)(es:List Edge)(fin:Int)(hf:Fit n es)(hl:es.length≤131072)(h0:0≤fin)(h1:fin<n):∃ f,P5 K n es fin=some f∧Dist n es fin f:=by
 unfold P5;obtain ⟨⟨x0,t0⟩,hx,rfl⟩:=far_l0 K n hn K (by omega);rw [if_pos (Int.natCast_nonneg n),if_pos (by omega),Int.toNat_natCast,hx,Option.bind_some];simp only;rw [if_pos h0,if_pos (by rw [List.length_replicate];exact h1)];have hs:∀ x:Int,0≤x→x<n→rd ((List.replicate n (-1:Int)).set fin.toNat 0) x=if fin=x then 0 else -1:=fun x a b=>by
  rw [rdi_set _ h0 (by rw [List.length_replicate];exact h1) a]
  split
  ·rfl
  ·exact rdi_rep _ a b
 have hu:uv ((List.replicate n (-1:Int)).set fin.toNat 0)+1=n:=by
  rw [uv_set _ _ _ (by rw [List.length_replicate];omega) ?_ (Int.le_refl _),uv_rep];have:rd (List.replicate n (-1:Int)) fin = -1:=rdi_rep _ h0 h1;unfold S.rd at this;rw [this];decide
 have hbf:FR n es fin ((List.replicate n (-1:Int)).set fin.toNat 0) 0 0:=⟨⟨h0,h1⟩,by simp,by rw [hs fin h0 h1,if_pos rfl],fun x a b=>by rw [hs x a b];split <;> omega,fun x a b hne h2=>by rw [hs x a b,if_neg (fun e=>hne e.symm)] at h2;omega,fun x a b=>by rw [hs x a b];split <;> omega,fun x a b=>by rw [hs x a b];split <;> omega,fun e he h2 h3=>by omega⟩
 obtain ⟨⟨f,t⟩,hr,hq⟩:=rounds (L:=P5.l1 K n es) (fun s=>∃ t:Nat,s.2=(t:Int)+1∧t≤n∧FR n es fin s.1 t t) (fun s=>n+1-s.2.toNat) (fun r=>FR n es fin r.1 n n) (fun s m hI=>by
  obtain ⟨xs,t'⟩:=s;obtain ⟨t,rfl,ht,hv⟩:=hI;simp only at hv;simp only [P5.l1]
  by_cases hlt:(t:Int)+1≤n
  ·obtain ⟨⟨ys,q⟩,g1,g2⟩:=far_l2 K hK n hn es fin hf hl t (by omega) (by omega) xs hv;rw [if_pos hlt,g1,Option.bind_some,wr (by omega) (by omega)];exact .inr ⟨(ys,(t:Int)+1+1),⟨t+1,by simp,by omega,by simpa using g2⟩,by simp only;omega,rfl⟩
  ·rw [if_neg hlt];have:t=n:=by omega
   subst this;exact .inl ⟨_,rfl,hv⟩) K ((List.replicate n (-1:Int)).set fin.toNat 0,1) ⟨0,by simp,Nat.zero_le _,hbf⟩ (by show n+1-1<K;omega)
 rw [hr];exact ⟨f,rfl,hq.len,hq.e0,hq.lo,fun x a b=>by have:=hq.ub x a b;simp only at this;omega,hq.s2,fun e he h2=>hq.s3 e he h2 (by obtain ⟨_,a,b⟩:=hf e he;have:=hq.ub e.To a b;omega)⟩
theorem rway_l1 (K:Nat)(hK:200000≤K)(n:Nat)(hn:n≤64)(es:List Edge)(fin:Int)(hf:Fit n es)(hl:es.length≤131072)(f:List Int)(hd:Dist n es fin f)(a:Int)(ha0:0≤a)(ha1:a<n)(hne:a≠fin)(hr:0≤rd f a) :
  ∃ y q,z6.l1 K es f a K (-1,0)=some (y,q)∧MinIn f a es y:=by
 obtain ⟨e0,he0,hf0,h1,h2⟩:=hd.s2 a ha0 ha1 hne hr;have hnr:Nr f a e0:=⟨hf0,by omega⟩
 obtain ⟨⟨y,q⟩,hr,hq⟩:=rounds (L:=z6.l1 K es f a) (fun s=>∃ t:Nat,s.2=t∧t≤es.length∧((s.1 = -1∧∀ x ∈ es.take t,¬ Nr f a x)∨MinIn f a (es.take t) s.1)) (fun s=>es.length-s.2.toNat) (fun r=>MinIn f a es r.1) (fun s m hI=>by
  obtain ⟨y,t'⟩:=s;obtain ⟨t,rfl,ht,hv⟩:=hI;simp only at hv;simp only [z6.l1]
  by_cases hlt:(t:Int)<es.length
  ·have hlt':t<es.length:=by omega
   have hm:=rd_mem (xs:=es) (Int.natCast_nonneg t) hlt;have hg:=rd_get (xs:=es) (Int.natCast_nonneg t) hlt;rw [if_pos hlt,if_pos (Int.natCast_nonneg t)];rw [Int.toNat_natCast] at hg;generalize rd es (t:Int)=e at hm hg;obtain ⟨⟨f0,f1⟩,f2,f3⟩:=hf e hm;have hlen:=hd.len;have hl2:=hd.hi a ha0 ha1;have ms:=min_step (f:=f) (a:=a) (y:=y) hg (hv.imp (fun h=>⟨h.2,trivial⟩) id);rw [wr (a:=(t:Int)+1) (by omega) (by omega)];have skip:¬ Nr f a e→((y = -1∧∀ x ∈ es.take (t+1),¬ Nr f a x)∨MinIn f a (es.take (t+1)) y):=fun h=>by
    rcases hv with hv|hv
    ·rcases ms.1 h with h2|h2
     ·exact .inl ⟨hv.1,h2.1⟩
     ·exact .inr h2
    ·rcases ms.1 h with h2|h2
     ·obtain ⟨⟨x,hx,hn,_⟩,_⟩:=hv;exact absurd hn (h2.2 x hx)
     ·exact .inr h2
   by_cases c1:e.From=a
   ·rw [if_pos c1,if_pos f2,if_pos (by rw [hlen];exact f3),if_pos ha0,if_pos (by rw [hlen];exact ha1),wr (a:=rd f a-1) (by omega) (by omega)]
    by_cases c3:rd f e.To=rd f a-1
    ·have hne:Nr f a e:=⟨c1,c3⟩
     rw [if_pos c3];rcases hv with ⟨rfl,hv⟩|hv
     ·rw [if_pos (by decide)];exact .inr ⟨_,⟨t+1,by simp,hlt',.inr (ms.2.1 hne hv)⟩,by simp only;omega,rfl⟩
     ·have hy:¬ y<0:=by
       obtain ⟨⟨x,hx,_,rfl⟩,_⟩:=hv;have:=(hf x (List.mem_of_mem_take hx)).2.1;omega
      have g:=ms.2.2 hne hv;rw [if_neg hy]
      by_cases c4:e.To<y
      ·rw [if_pos c4] at g ⊢;exact .inr ⟨_,⟨t+1,by simp,hlt',.inr g⟩,by simp only;omega,rfl⟩
      ·rw [if_neg c4] at g ⊢;exact .inr ⟨_,⟨t+1,by simp,hlt',.inr g⟩,by simp only;omega,rfl⟩
    ·rw [if_neg c3];exact .inr ⟨_,⟨t+1,by simp,hlt',skip (fun h=>c3 h.2)⟩,by simp only;omega,rfl⟩
   ·rw [if_neg c1];exact .inr ⟨_,⟨t+1,by simp,hlt',skip (fun h=>c1 h.1)⟩,by simp only;omega,rfl⟩
  ·rw [if_neg hlt];have:t=es.length:=by omega
   subst this;rw [List.take_length] at hv;refine .inl ⟨_,rfl,hv.resolve_left fun h=>h.2 e0 he0 hnr⟩) K (-1,0) ⟨0,rfl,Nat.zero_le _,.inl ⟨rfl,by intro e he;simp at he⟩⟩ (by show es.length-0<K;omega)
 exact ⟨y,q,hr,hq⟩
theorem rway_l0 (K:Nat)(hK:200000≤K)(n:Nat)(hn:n≤64)(es:List Edge)(fin:Int)(hf:Fit n es)(hl:es.length≤131072)(f:List Int)(hd:Dist n es fin f):∀ (d:Nat) (a:Int) (acc:List Int) (m:Nat),0≤a→a<n→rd f a=d→d<m→acc.length+d≤1000 →
  ∃ w,z6.l0 K es fin f m (acc,a)=some (acc++w,fin)∧IsWay es fin f w a∧w.length=d
 | d,a,acc,m,h0,h1,hda,hm,hac=>by
  obtain ⟨m,rfl⟩:=sSx hm;simp only [z6.l0]
  by_cases hne:a=fin
  ·subst hne;rw [if_neg (fun h=>h rfl)];have:=hd.e0;exact ⟨[],by rw [List.append_nil],rfl,by simp only [List.length_nil];omega⟩
  ·obtain ⟨y,q,hy,hmin⟩:=rway_l1 K hK n hn es fin hf hl f hd a h0 h1 hne (by omega);rw [if_pos hne,if_pos (by simp only [List.length_cons,List.length_nil];omega),hy,Option.bind_some];obtain ⟨⟨e,he,hn2,rfl⟩,_⟩:=id hmin;obtain ⟨_,c,c'⟩:=hf e he;obtain ⟨e1,he1,_,g1,g2⟩:=hd.s2 a h0 h1 hne (by omega);have hn3:=hn2.2
   cases d with
   | zero=>omega
   | succ d =>
    obtain ⟨w,hw,hw2,hw3⟩:=rway_l0 K hK n hn es fin hf hl f hd d e.To (acc++[a]) m c c' (by omega) (by omega) (by simp only [List.length_append,List.length_cons,List.length_nil];omega);exact ⟨a::w,by rw [hw,List.append_assoc];rfl,⟨rfl,hne,e.To,hmin,hw2⟩,by rw [List.length_cons,hw3]⟩
theorem rway_spec (K:Nat)(hK:200000≤K)(n:Nat)(hn:n≤64)(es:List Edge)(hf:Fit n es)(hl:es.length≤131072)(a fin:Int)(ha0:0≤a)(ha1:a<n)(h0:0≤fin)(h1:fin<n)(hr:Reach es a fin) :
  ∃ w f,z6 K n es a fin=some w∧Dist n es fin f∧IsWay es fin f w a∧w.length≤64:=by
 obtain ⟨f,hs,hd⟩:=far_spec K hK n hn es fin hf hl h0 h1;have hp:0≤rd f a:=hd.of_reach hr (by rw [hd.e0];omega);have h64:=hd.hi a ha0 ha1;obtain ⟨w,hw,hw2,hw3⟩:=rway_l0 K hK n hn es fin hf hl f hd (rd f a).toNat a [] K ha0 ha1 (by omega) (by omega) (by simp only [List.length_nil];omega);refine ⟨w,f,?_,hd,hw2,by omega⟩;unfold z6;rw [hs,Option.bind_some,hw];rfl
theorem sweep (K:Nat)(hK:200000≤K)(n:Nat)(hn:n≤64)(es:List Edge)(q:Int)(hf:Fit n es)(hl:es.length≤131072)(B:∃ P,Stab es P∧Pos n P∧∀ i:Int,0≤i→i<n→P i≤63)(x0:List Int)(h0:Low n es x0) :
  ∃ r,W3.l2 K (es,q) K (x0,0)=some r∧Low n es r.1∧(∀ i:Int,0≤i→i<n→rd x0 i≤rd r.1 i)∧∀ e ∈ es,rd x0 e.To+ng e≤rd r.1 e.From:=by
 obtain ⟨P,hP,hp,h63⟩:=B;refine rounds (L:=W3.l2 K (es,q)) (fun s=>∃ t:Nat,s.2=t∧t≤es.length∧Low n es s.1∧(∀ i:Int,0≤i→i<n→rd x0 i≤rd s.1 i)∧∀ e ∈ es.take t,rd x0 e.To+ng e≤rd s.1 e.From) (fun s=>es.length-s.2.toNat) (fun r=>Low n es r.1∧(∀ i:Int,0≤i→i<n→rd x0 i≤rd r.1 i)∧∀ e ∈ es,rd x0 e.To+ng e≤rd r.1 e.From) (fun s m hI=>?_) K _ ⟨0,rfl,Nat.zero_le _,h0,fun i _ _=>Int.le_refl _,by intro e he;simp at he⟩ (by show es.length-0<K;omega);obtain ⟨xs,t'⟩:=s;obtain ⟨t,rfl,ht,hv,hg1,hd⟩:=hI;simp only at hv hd hg1;simp only [W3.l2]
 by_cases hlt:(t:Int)<es.length
 ·have hlt':t<es.length:=by omega
  have hm:=rd_mem (xs:=es) (Int.natCast_nonneg t) hlt;have hg:=rd_get (xs:=es) (Int.natCast_nonneg t) hlt;rw [if_pos hlt,if_pos (Int.natCast_nonneg t)];rw [Int.toNat_natCast] at hg;generalize rd es (t:Int)=e at hm hg;obtain ⟨⟨f0,f1⟩,f2,f3⟩:=hf e hm;have hT0:=hv.2.1 e.To f2 f3;have hT1:=hv.2.2 P hP hp e.To f2 f3;have hT2:=h63 e.To f2 f3;have hF0:=hv.2.1 e.From f0 f1;have hx0:=hg1 e.To f2 f3;have hng:=ng_le e;have hlen:=hv.1;have he:(if e.Neg=true then some (IntKind.wrap .i64 (rd xs e.To+1)) else some (rd xs e.To))=some (rd xs e.To+ng e):=by
   unfold ng
   split
   ·rw [wr (by omega) (by omega)]
   ·rw [Int.add_zero]
  have take:∀ x,x ∈ es.take (t+1)↔x ∈ es.take t∨x=e:=fun x=>by rw [List.take_add_one,hg];simp
  rw [if_pos f2,if_pos (by rw [hlen];exact f3),he,Option.bind_some,if_pos f0,if_pos (by rw [hlen];exact f1),wr (by omega) (by omega)];have hset:∀ v:Int,∀ x:Int,0≤x→rd (xs.set e.From.toNat v) x=if e.From=x then v else rd xs x:=fun v x hx=>rdi_set _ f0 (by omega) hx
  refine .inr ⟨_,⟨t+1,by simp,hlt',?_,fun i a b=>?_,fun x hx=>?_⟩,by simp only;omega,rfl⟩
  ·simp only
   split
   ·exact hv.put hf hm (Int.le_refl _) (by omega)
   ·have:xs.set e.From.toNat (rd xs e.From)=xs:=rdi_ext (n:=n) (by simpa using hlen) hlen fun i a b=>by
     rw [hset _ i a];split
     ·rename_i e2;rw [e2]
     ·rfl
    rw [this];exact hv
  ·simp only;rw [hset _ i a];have:=hg1 i a b
   split
   ·rename_i e2;subst e2;split <;> omega
   ·exact this
  ·simp only;obtain ⟨⟨x0',x1⟩,x2,x3⟩:=hf x (List.mem_of_mem_take hx);rw [hset _ _ x0'];rcases (take x).1 hx with hx|rfl
   ·have:=hd x hx
    split
    ·rename_i e2;rw [← e2] at this;split <;> omega
    ·exact this
   ·rw [if_pos rfl];split <;> omega
 ·rw [if_neg hlt];have:t=es.length:=by omega
  subst this;rw [List.take_length] at hd;exact .inl ⟨_,rfl,hv,hg1,hd⟩
theorem sweeps (K:Nat)(hK:200000≤K)(g:Grammar)(hn:g.Names.length≤64)(es:List Edge)(q:Int)(hf:Fit g.Names.length es)(hl:es.length≤131072)(B:∃ P,Stab es P∧Pos g.Names.length P∧∀ i:Int,0≤i→i<g.Names.length→P i≤63)(T:List Int)(hT:Lev g.Names.length es T) :
  ∃ r,W3.l1 K g (es,q) K (List.replicate g.Names.length 0,0)=some r∧r.1=T:=by
 generalize hnn:g.Names.length=n at *;refine rounds (L:=W3.l1 K g (es,q)) (fun s=>∃ t:Nat,s.2=t∧t≤n+1∧Low n es s.1∧(nf n T s.1=0∨nf n T s.1+t≤n)) (fun s=>n+1-s.2.toNat) (fun r=>r.1=T) (fun s m hI=>?_) K _ ⟨0,rfl,Nat.zero_le _,Low.zero n es,.inr (by have:=nf_le (n:=n) (T:=T) (xs:=List.replicate n 0);simp only;omega)⟩ (by show n+1-0<K;omega);obtain ⟨xs,t'⟩:=s;obtain ⟨t,rfl,ht,hv,hd⟩:=hI;simp only at hv hd;simp only [W3.l1];rw [hnn]
 by_cases hlt:(t:Int)≤n
 ·obtain ⟨⟨ys,q⟩,g1,g2,g3,g4⟩:=sweep K hK n hn es q hf hl B xs hv;rw [if_pos hlt,g1,Option.bind_some,wr (by omega) (by omega)];refine .inr ⟨(ys,(t:Int)+1),⟨t+1,by simp,by omega,g2,?_⟩,by simp only;omega,rfl⟩;simp only at g2 g3 g4 ⊢;rcases Nat.eq_zero_or_pos (nf n T xs) with hz|hz
  ·left;have:=nf_zero hT.1.1 hv.1 hz;subst this;rcases Nat.eq_zero_or_pos (nf n xs ys) with hz2|hz2
   ·exact hz2
   ·exfalso;unfold nf at hz2;obtain ⟨i,hi,hne⟩:=List.countP_pos_iff.1 hz2;rw [List.mem_range] at hi;rw [decide_eq_true_eq] at hne;have a1:=g3 (i:Int) (by omega) (by omega);have a2:=g2.2.2 _ hT.2 hT.1.2.1 (i:Int) (by omega) (by omega);omega
  ·right;have:=nf_step hf hT hv g2 g3 g4 hz;omega
 ·rw [if_neg hlt];refine .inl ⟨_,rfl,nf_zero hT.1.1 hv.1 ?_⟩;simp only;omega
theorem rStrata_spec (K:Nat)(hK:200000≤K)(g:Grammar):∃ r,W3 K g=some r∧StrOut g r:=by
 obtain ⟨b,hb,_,_,_,h1⟩:=Edges_both K hK g;unfold W3;rw [h1,Option.bind_some]
 cases b with
 | false=>exact ⟨_,rfl,.inl ⟨fun h=>Bool.noConfusion (hb.2 h),rfl⟩⟩
 | true =>
  have hm:=hb.1 rfl;have hf:=fit_edges hm;have hl:=edges_len g (may_bd hm);have hn:=hm.1.2.1;simp only [if_true];rw [if_neg (fun h=>h rfl)];obtain ⟨r,hr,hq⟩:=rounds (L:=W3.l0 K g (edgesOf g,0)) (fun s=>∃ t:Nat,s=t∧t≤(edgesOf g).length∧∀ j:Nat,j<t→¬ Cyc (edgesOf g) (rd (edgesOf g) (j:Int))) (fun s=>(edgesOf g).length-s.toNat)
   (fun r=>match r with | .inl _=>∀ e ∈ edgesOf g,¬ Cyc (edgesOf g) e | .inr c=>∃ c',CycSpec g.Names.length (edgesOf g) c'∧c=([],c',801)) (fun s m hI=>by
    obtain ⟨t,rfl,ht,hv⟩:=hI;simp only [W3.l0]
    by_cases hlt:(t:Int)<(edgesOf g).length
    ·have hlt':t<(edgesOf g).length:=by omega
     have hm':=rd_mem (xs:=edgesOf g) (Int.natCast_nonneg t) hlt;obtain ⟨⟨f0,f1⟩,f2,f3⟩:=hf _ hm';rw [if_pos hlt,if_pos (Int.natCast_nonneg t),wr (a:=(t:Int)+1) (by omega) (by omega)];have next:¬ Cyc (edgesOf g) (rd (edgesOf g) (t:Int))→∀ j:Nat,j<t+1→¬ Cyc (edgesOf g) (rd (edgesOf g) (j:Int)):=fun h j hj=>by
      rcases Nat.lt_succ_iff_lt_or_eq.1 hj with hj|rfl
      ·exact hv j hj
      ·exact h
     by_cases hng:(rd (edgesOf g) (t:Int)).Neg=true
     ·obtain ⟨b,hb,hb2⟩:=RReaches_spec g.Names.length (edgesOf g) (rd (edgesOf g) (t:Int)).To (rd (edgesOf g) (t:Int)).From (by omega) K (by omega) (by omega);rw [if_pos hng,hb,Option.bind_some]
      by_cases hbt:b=true
      ·have hrc:=(hb2.1 hbt).2.2.2;obtain ⟨w,f,hw,hd,hw2,hw3⟩:=rway_spec K hK g.Names.length hn (edgesOf g) hf hl _ _ f2 f3 f0 f1 hrc;rw [if_pos hbt,hw,Option.bind_some,if_pos (by simp only [List.length_cons,List.length_nil];omega)];exact .inl ⟨_,rfl,_,⟨t,hlt',⟨hng,hrc⟩,hv,f,w,hd,hw2,rfl⟩,rfl⟩
      ·rw [if_neg hbt];exact .inr ⟨_,⟨t+1,by simp,hlt',next fun h=>hbt (hb2.2 ⟨⟨by omega,by omega,hf⟩,⟨f2,f3⟩,⟨f0,f1⟩,h.2⟩)⟩,by omega,rfl⟩
     ·rw [if_neg hng];exact .inr ⟨_,⟨t+1,by simp,hlt',next fun h=>hng h.1⟩,by omega,rfl⟩
    ·rw [if_neg hlt];refine .inl ⟨_,rfl,fun e he=>?_⟩;obtain ⟨j,hj,rfl⟩:=List.getElem_of_mem he;have:=hv j (by omega)
     rwa [rd_nat,List.getD_eq_getElem?_getD,List.getElem?_eq_getElem hj] at this) K 0 ⟨0,rfl,Nat.zero_le _,fun j hj=>by omega⟩ (by show (edgesOf g).length-0<K;omega)
  rw [hr]
  cases r with
  | inr c =>
   obtain ⟨c',h2,rfl⟩:=hq;exact ⟨_,rfl,.inr ⟨hm,.inl ⟨c',h2,rfl⟩⟩⟩
  | inl s =>
   obtain ⟨P,p1,p2,p3⟩:=pot_of hm hq;have B:∃ P,Stab (edgesOf g) P∧Pos g.Names.length P∧∀ i:Int,0≤i→i<g.Names.length→P i≤63:=⟨P,p1,p2,fun i a b=>by have:=p3 i a b;omega⟩
   obtain ⟨⟨T,_⟩,_,hT⟩:=str_l0 K hK _ hn (edgesOf g) 0 hf hl B;obtain ⟨⟨xs,q⟩,h2,h3⟩:=sweeps K hK g hn (edgesOf g) 0 hf hl B T hT;simp only [brk,Option.bind_some];rw [if_pos (by omega),Int.toNat_natCast,h2];simp only at h3;subst h3;exact ⟨_,rfl,.inr ⟨hm,.inr ⟨hq,xs,hT,rfl⟩⟩⟩
end RT
theorem rStrata_spec (K:Nat)(hK:200000≤K)(g:Grammar):∃ r,W3 K g=some r∧StrOut g r:=RT.rStrata_spec K hK g
end
namespace RT
open S Go.Sort
set_option maxRecDepth 100000
def offC:Int→List Conjunct→List Int
 | _,[]=>[]
 | q,c::cs=>q::offC (q+(c.Seq.length:Int)+1) cs
def endC:Int→List Conjunct→Int
 | q,[]=>q
 | q,c::cs=>endC (q+(c.Seq.length:Int)+1) cs
def offR:Int→List Rule→List (List Int)
 | _,[]=>[]
 | q,r::rs=>offC q r.Conj::offR (endC q r.Conj) rs
def endR:Int→List Rule→Int
 | q,[]=>q
 | q,r::rs=>endR (endC q r.Conj) rs
theorem rd_zero {T:Type}[Inhabited T]{x:T}{xs:List T}:rd (x::xs) ((0:Nat):Int)=x:=rfl
theorem rd_succ {T:Type}[Inhabited T]{x:T}{xs:List T}{i:Nat}:rd (x::xs) ((i+1:Nat):Int)=rd xs (i:Int):=rfl
theorem offC_len:∀ (cs:List Conjunct) (q:Int),(offC q cs).length=cs.length
 | [],_=>rfl
 | c::cs,q=>by rw [offC,List.length_cons,List.length_cons,offC_len cs]
theorem offR_len:∀ (rs:List Rule) (q:Int),(offR q rs).length=rs.length
 | [],_=>rfl
 | r::rs,q=>by rw [offR,List.length_cons,List.length_cons,offR_len rs]
theorem endC_ge:∀ (cs:List Conjunct) (q:Int),q≤endC q cs
 | [],_=>Int.le_refl _
 | c::cs,q=>by have:=endC_ge cs (q+(c.Seq.length:Int)+1);rw [endC];omega
theorem endR_ge:∀ (rs:List Rule) (q:Int),q≤endR q rs
 | [],_=>Int.le_refl _
 | r::rs,q=>by have:=endR_ge rs (endC q r.Conj);have:=endC_ge r.Conj q;rw [endR];omega
theorem endC_le:∀ (cs:List Conjunct) (q:Int),(∀ c ∈ cs,c.Seq.length≤64)→endC q cs≤q+65*(cs.length:Int)
 | [],q,_=>by simp [endC]
 | c::cs,q,h=>by
  have h1:=h c (.head _);have:=endC_le cs (q+(c.Seq.length:Int)+1) fun x hx=>h x (.tail _ hx)
  rw [endC,List.length_cons];push_cast;omega
theorem endR_le:∀ (rs:List Rule) (q:Int),(∀ r ∈ rs,RuleBd r)→endR q rs≤q+520*(rs.length:Int)
 | [],q,_=>by simp [endR]
 | r::rs,q,h=>by
  have h1:=h r (.head _);have h2:=endC_le r.Conj q h1.2;have h3:=h1.1;have:=endR_le rs (endC q r.Conj) fun x hx=>h x (.tail _ hx)
  rw [endR,List.length_cons];push_cast;omega
theorem offC_in:∀ (cs:List Conjunct) (q:Int) (c:Nat),c<cs.length→q≤rd (offC q cs) (c:Int)∧rd (offC q cs) (c:Int)+((rd cs (c:Int)).Seq.length:Int)+1≤endC q cs
 | [],_,_,h=>by simp at h
 | x::cs,q,0,_=>by
  have:=endC_ge cs (q+(x.Seq.length:Int)+1);rw [offC,rd_zero,rd_zero,endC];omega
 | x::cs,q,c+1,h=>by
  have:=offC_in cs (q+(x.Seq.length:Int)+1) c (by simpa using h);rw [offC,rd_succ,rd_succ,endC];omega
theorem offC_lt:∀ (cs:List Conjunct) (q:Int) (c c':Nat),c<c'→c'<cs.length→rd (offC q cs) (c:Int)+((rd cs (c:Int)).Seq.length:Int)+1≤rd (offC q cs) (c':Int)
 | [],_,_,_,_,h=>by simp at h
 | x::cs,q,c,0,h,_=>by omega
 | x::cs,q,0,c'+1,_,h=>by
  have:=offC_in cs (q+(x.Seq.length:Int)+1) c' (by simpa using h);rw [offC,rd_zero,rd_zero,rd_succ];omega
 | x::cs,q,c+1,c'+1,h1,h=>by
  have:=offC_lt cs (q+(x.Seq.length:Int)+1) c c' (by omega) (by simpa using h);rw [offC,rd_succ,rd_succ,rd_succ];omega
theorem offR_in:∀ (rs:List Rule) (q:Int) (r c:Nat),r<rs.length→c<(rd rs (r:Int)).Conj.length→q≤rd (rd (offR q rs) (r:Int)) (c:Int)∧rd (rd (offR q rs) (r:Int)) (c:Int)+((rd (rd rs (r:Int)).Conj (c:Int)).Seq.length:Int)+1≤endR q rs
 | [],_,_,_,h,_=>by simp at h
 | x::rs,q,0,c,_,hc=>by
  rw [rd_zero] at hc;have h1:=offC_in x.Conj q c hc;have:=endR_ge rs (endC q x.Conj);rw [offR,rd_zero,rd_zero,endR];omega
 | x::rs,q,r+1,c,h,hc=>by
  rw [rd_succ] at hc;have h1:=offR_in rs (endC q x.Conj) r c (by simpa using h) hc;have:=endC_ge x.Conj q;rw [offR,rd_succ,rd_succ,endR];omega
theorem offR_lt:∀ (rs:List Rule) (q:Int) (r r' c c':Nat),r<r'→r'<rs.length→c<(rd rs (r:Int)).Conj.length→c'<(rd rs (r':Int)).Conj.length→rd (rd (offR q rs) (r:Int)) (c:Int)+((rd (rd rs (r:Int)).Conj (c:Int)).Seq.length:Int)+1≤rd (rd (offR q rs) (r':Int)) (c':Int)
 | [],_,_,_,_,_,_,h,_,_=>by simp at h
 | x::rs,q,r,0,_,_,h,_,_,_=>by omega
 | x::rs,q,0,r'+1,c,c',_,h,hc,hc'=>by
  rw [rd_zero] at hc;rw [rd_succ] at hc';have h1:=offC_in x.Conj q c hc;have h2:=offR_in rs (endC q x.Conj) r' c' (by simpa using h) hc';rw [offR,rd_zero,rd_zero,rd_succ];omega
 | x::rs,q,r+1,r'+1,c,c',h1,h,hc,hc'=>by
  rw [rd_succ] at hc hc';have:=offR_lt rs (endC q x.Conj) r r' c c' (by omega) (by simpa using h) hc hc';rw [offR,rd_succ,rd_succ,rd_succ];exact this
theorem offR_row:∀ (rs:List Rule) (q:Int) (r:Nat),r<rs.length→∃ p,rd (offR q rs) (r:Int)=offC p (rd rs (r:Int)).Conj
 | [],_,_,h=>by simp at h
 | x::rs,q,0,_=>⟨q,rfl⟩
 | x::rs,q,r+1,h=>by
  obtain ⟨p,hp⟩:=offR_row rs (endC q x.Conj) r (by simpa using h);exact ⟨p,by rw [offR,rd_succ,rd_succ,hp]⟩
def cjs (g:Grammar):List (List Int):=offR 0 g.Rules
def off (g:Grammar)(r c:Nat):Int:=rd (rd (cjs g) (r:Int)) (c:Int)
def Pl (g:Grammar)(r c k:Nat):Prop:=r<g.Rules.length∧c<(rd g.Rules (r:Int)).Conj.length∧k≤(rd (rd g.Rules (r:Int)).Conj (c:Int)).Seq.length
def total_ (g:Grammar):Int:=endR 0 g.Rules
theorem off_in {g:Grammar}{r c k:Nat}(h:Pl g r c k):0≤off g r c∧off g r c+(k:Int)<total_ g:=by
 have:=offR_in g.Rules 0 r c h.1 h.2.1;have:=h.2.2;unfold off cjs total_;omega
theorem off_inj {g:Grammar}{r c k r' c' k':Nat}(h:Pl g r c k)(h':Pl g r' c' k')(e:off g r c+(k:Int)=off g r' c'+(k':Int)):r=r'∧c=c'∧k=k':=by
 have a1:=h.2.2;have a2:=h'.2.2;rcases Nat.lt_trichotomy r r' with hr|rfl|hr
 ·have:=offR_lt g.Rules 0 r r' c c' hr h'.1 h.2.1 h'.2.1;unfold off cjs at e;omega
 ·obtain ⟨p,hp⟩:=offR_row g.Rules 0 r h.1;rcases Nat.lt_trichotomy c c' with hc|rfl|hc
  ·have:=offC_lt (rd g.Rules (r:Int)).Conj p c c' hc h'.2.1;unfold off cjs at e;rw [hp] at e;omega
  ·exact ⟨rfl,rfl,by omega⟩
  ·have:=offC_lt (rd g.Rules (r:Int)).Conj p c' c hc h.2.1;unfold off cjs at e;rw [hp] at e;omega
 ·have:=offR_lt g.Rules 0 r' r c' c hr h.1 h'.2.1 h.2.1;unfold off cjs at e;omega
theorem cjs_len (g:Grammar):(cjs g).length=g.Rules.length:=offR_len _ _
theorem cjs_row {g:Grammar}{r:Nat}(h:r<g.Rules.length):(rd (cjs g) (r:Int)).length=(rd g.Rules (r:Int)).Conj.length:=by
 obtain ⟨p,hp⟩:=offR_row g.Rules 0 r h;unfold cjs;rw [hp,offC_len]
theorem total_le {g:Grammar}(hb:Bd g):0≤total_ g∧total_ g≤133120:=by
 have h1:=endR_le g.Rules 0 hb.2;have h2:=endR_ge g.Rules 0;have h3:=hb.1;unfold total_;omega
def pz:List Int→Nat
 | []=>0
 | v::xs=>(if 0<v then 0 else 1)+pz xs
theorem pz_set:∀ (xs:List Int) (i:Nat),i<xs.length→¬ 0<xs.getD i default→pz (xs.set i 1)<pz xs
 | [],i,h,_=>by simp at h
 | x::xs,0,_,h1=>by
  have:¬ 0<x:=h1;simp only [List.set_cons_zero,pz];rw [if_pos (by decide),if_neg this];omega
 | x::xs,i+1,h,h1=>by
  have:=pz_set xs i (by simpa using h) (by simpa using h1);simp only [List.set_cons_succ,pz];omega
theorem pz_le:∀ xs:List Int,pz xs≤xs.length
 | []=>Nat.le_refl _
 | x::xs=>by have:=pz_le xs;rw [pz,List.length_cons];split <;> omega
def seqA (g:Grammar)(r c:Nat):List Symbol:=(rd (rd g.Rules (r:Int)).Conj (c:Int)).Seq
def Ext (xs ys:List Int):Prop:=ys.length=xs.length∧∀ i:Int,0≤i→i<xs.length→0<rd xs i→0<rd ys i
theorem Ext.refl (xs:List Int):Ext xs xs:=⟨rfl,fun _ _ _ h=>h⟩
theorem Ext.trans {xs ys zs:List Int}(h1:Ext xs ys)(h2:Ext ys zs):Ext xs zs:=⟨h2.1.trans h1.1,fun i a b h=>h2.2 i a (by rw [h1.1];exact b) (h1.2 i a b h)⟩
theorem Ext.set {xs:List Int}{i:Int}(h0:0≤i)(h1:i<xs.length):Ext xs (xs.set i.toNat 1):=⟨by simp,fun j a b h=>by rw [rdi_set _ h0 h1 a];split <;> omega⟩
theorem markLoop {v:Int}{l:List Int}{L:Nat→List Int×Int→Option (List Int×Int)}(step:∀ (m:Nat) (s:List Int) (i:Nat),i<l.length→0≤rd l (i:Int)→rd l (i:Int)<s.length→L (m+1) (s,(i:Int))=L m (s.set (rd l (i:Int)).toNat v,(i:Int)+1))(stop:∀ m s,L (m+1) (s,(l.length:Int))=some (s,(l.length:Int))) :
  ∀ (d i m:Nat) (xs:List Int),i+d=l.length→d<m→(∀ x ∈ l,0≤x∧x<xs.length)→∃ xs',L m (xs,(i:Int))=some (xs',(l.length:Int))∧xs'.length=xs.length∧∀ x:Int,0≤x→x<xs.length→(x ∈ l.drop i→rd xs' x=v)∧(x ∉ l.drop i→rd xs' x=rd xs x)
 | 0,i,m,xs,hi,hm,hx=>by
  obtain ⟨m,rfl⟩:=sSx hm;have:i=l.length:=by omega
  subst this;refine ⟨xs,stop m xs,rfl,fun x _ _=>⟨fun h=>?_,fun _=>rfl⟩⟩;rw [List.drop_length] at h;cases h
 | d+1,i,m,xs,hi,hm,hx=>by
  obtain ⟨m,rfl⟩:=sSx hm;have hil:i<l.length:=by omega
  have hm':=rd_mem (xs:=l) (i:=(i:Int)) (by omega) (by omega);obtain ⟨h0,h1⟩:=hx _ hm';have e:l.drop i=rd l (i:Int)::l.drop (i+1):=by
   rw [List.drop_eq_getElem_cons hil,rd_nat,List.getD_eq_getElem?_getD,List.getElem?_eq_getElem hil];rfl
  obtain ⟨xs',g1,g2,g3⟩:=markLoop step stop d (i+1) m (xs.set (rd l (i:Int)).toNat v) (by omega) (by omega) (fun x h=>by rw [List.length_set];exact hx x h);rw [List.length_set] at g2 g3;refine ⟨xs',?_,g2,fun x a b=>?_⟩
  ·rw [step m xs i hil h0 h1];exact g1
  ·obtain ⟨k1,k2⟩:=g3 x a b;rw [e]
   by_cases c:x ∈ l.drop (i+1)
   ·exact ⟨fun _=>k1 c,fun h=>absurd (.tail _ c) h⟩
   ·rw [k2 c,rdi_set _ h0 h1 a];refine ⟨fun h=>?_,fun h=>?_⟩
    ·rcases List.mem_cons.1 h with rfl|h
     ·rw [if_pos rfl]
     ·exact absurd h c
    ·rw [if_neg (fun e=>h (by rw [e];exact .head _))]
def cz (n:Nat)(xs:List Int):Nat:=(List.range n).countP fun i:Nat=>decide (¬ 0<rd xs (i:Int))
theorem cz_len (n:Nat)(xs:List Int):cz n xs≤n:=by
 unfold cz;have:=List.countP_le_length (p:=fun i:Nat=>decide (¬ 0<rd xs (i:Int))) (l:=List.range n);simpa using this
theorem cz_le {n:Nat}{xs ys:List Int}(h:∀ x:Int,0≤x→x<n→0<rd xs x→0<rd ys x):cz n ys≤cz n xs:=by
 unfold cz;refine List.countP_mono_left fun i hi hp=>?_
 rw [List.mem_range] at hi;rw [decide_eq_true_eq] at hp ⊢;exact fun h2=>hp (h (i:Int) (by omega) (by omega) h2)
theorem cz_lt {n:Nat}{xs ys:List Int}(h:∀ x:Int,0≤x→x<n→0<rd xs x→0<rd ys x){x:Int}(h0:0≤x)(h1:x<n)(hx:¬ 0<rd xs x)(hy:0<rd ys x):cz n ys<cz n xs:=by
 unfold cz;refine countP_lt (fun i hi hp=>?_) ⟨x.toNat,List.mem_range.2 (by omega),?_,?_⟩
 ·rw [List.mem_range] at hi;rw [decide_eq_true_eq] at hp ⊢;exact fun h2=>hp (h (i:Int) (by omega) (by omega) h2)
 ·rw [decide_eq_true_eq,Int.toNat_of_nonneg h0];exact hx
 ·rw [decide_eq_false_iff_not,Int.toNat_of_nonneg h0,Decidable.not_not];exact hy
theorem drop_rd {T:Type}[Inhabited T]{xs:List T}{i:Nat}(h:i<xs.length):xs.drop i=rd xs (i:Int)::xs.drop (i+1):=by
 rw [List.drop_eq_getElem_cons h,rd_nat,List.getD_eq_getElem?_getD,List.getElem?_eq_getElem h];rfl
theorem nt_l1 (K:Nat)(g:Grammar)(i:Nat)(h8:(rd g.Rules (i:Int)).Conj.length≤8):∀ (d j m:Nat) (acc:List Int) (q:Int),j+d=(rd g.Rules (i:Int)).Conj.length→d<m→acc.length+d≤1000→0≤q→endC q ((rd g.Rules (i:Int)).Conj.drop j)≤200000 →
  J2.l1 K g (i:Int) m (acc,q,(j:Int))=some (acc++offC q ((rd g.Rules (i:Int)).Conj.drop j),endC q ((rd g.Rules (i:Int)).Conj.drop j),((rd g.Rules (i:Int)).Conj.length:Int))
 | 0,j,m,acc,q,hj,hm,hl,hq,he=>by
  obtain ⟨m,rfl⟩:=sSx hm;have:j=(rd g.Rules (i:Int)).Conj.length:=by omega
  subst this;simp only [J2.l1];rw [if_pos (by omega),if_neg (by omega),List.drop_length,offC,endC,List.append_nil]
 | d+1,j,m,acc,q,hj,hm,hl,hq,he=>by
  obtain ⟨m,rfl⟩:=sSx hm;rw [drop_rd (show j<_ by omega),endC] at he;have h1:=endC_ge ((rd g.Rules (i:Int)).Conj.drop (j+1)) (q+((rd (rd g.Rules (i:Int)).Conj (j:Int)).Seq.length:Int)+1);have ih:=nt_l1 K g i h8 d (j+1) m (acc++[q]) (q+((rd (rd g.Rules (i:Int)).Conj (j:Int)).Seq.length:Int)+1) (by omega) (by omega) (by rw [List.length_append,List.length_singleton];omega) (by omega) he;simp only [J2.l1,List.length_singleton];rw [if_pos (by omega),if_pos (by omega),if_pos (by omega),if_pos (by omega),wr (a:=q+_) (by omega) (by omega),wr (a:=q+_+1) (by omega) (by omega),wr (a:=(j:Int)+1) (by omega) (by omega),drop_rd (show j<_ by omega),offC,endC];rw [List.append_assoc] at ih;exact ih
theorem nt_l0 (K:Nat)(hK:1000≤K)(g:Grammar)(hb:Bd g):∀ (d i m:Nat) (acc:List (List Int)) (q:Int),i+d=g.Rules.length→d<m→acc.length+d≤1000→0≤q→endR q (g.Rules.drop i)≤200000 →
  J2.l0 K g m (acc,q,(i:Int))=some (acc++offR q (g.Rules.drop i),endR q (g.Rules.drop i),(g.Rules.length:Int))
 | 0,i,m,acc,q,hi,hm,hl,hq,he=>by
  obtain ⟨m,rfl⟩:=sSx hm;have:i=g.Rules.length:=by omega
  subst this;simp only [J2.l0];rw [if_neg (by omega),List.drop_length,offR,endR,List.append_nil]
 | d+1,i,m,acc,q,hi,hm,hl,hq,he=>by
  obtain ⟨m,rfl⟩:=sSx hm;have h256:=hb.1;have h8:=(hb.2 _ (rd_mem (xs:=g.Rules) (i:=(i:Int)) (by omega) (by omega))).1;rw [drop_rd (show i<_ by omega),endR] at he;have h1:=endR_ge (g.Rules.drop (i+1)) (endC q (rd g.Rules (i:Int)).Conj);have h2:=endC_ge (rd g.Rules (i:Int)).Conj q;have ih:=nt_l0 K hK g hb d (i+1) m (acc++[offC q (rd g.Rules (i:Int)).Conj]) (endC q (rd g.Rules (i:Int)).Conj) (by omega) (by omega) (by rw [List.length_append,List.length_singleton];omega) (by omega) he;have h3:=nt_l1 K g i h8 (rd g.Rules (i:Int)).Conj.length 0 K [] q (by omega) (by omega) (by simp only [List.length_nil];omega) hq (by rw [List.drop_zero];omega);rw [List.drop_zero,List.nil_append] at h3;have h3':J2.l1 K g (i:Int) K (([]:List Int),q,0)=some (offC q (rd g.Rules (i:Int)).Conj,endC q (rd g.Rules (i:Int)).Conj,((rd g.Rules (i:Int)).Conj.length:Int)):=h3;simp only [J2.l0];rw [if_pos (by omega),h3',Option.bind_some];simp only [List.length_singleton];rw [if_pos (by omega),wr (a:=(i:Int)+1) (by omega) (by omega),drop_rd (show i<_ by omega),offR,endR];rw [List.append_assoc] at ih;exact ih
def NmOk (g:Grammar):Prop:=∀ q ∈ g.Rules,∀ d ∈ q.Conj,∀ s ∈ d.Seq,0≤s.Name→s.Name<g.Names.length
theorem nm_ok {g:Grammar}(hm:mayP g):NmOk g:=fun q hq d hd s hs h0=>by
 have:=occ_bounds hm (e:=eOf q d s) ⟨q,hq,d,hd,s,hs,h0,rfl⟩;exact this.2.2.2
end RT
namespace RT
open S Go.Sort
set_option maxRecDepth 100000
abbrev wd (w:ByteArray):Nat:=(w.size+1)*(w.size+1)
def sp (w:ByteArray)(i j:Nat):Nat:=i*(w.size+1)+j
theorem sp_lt {w:ByteArray}{i j:Nat}(hi:i≤w.size)(hj:j≤w.size):sp w i j<wd w:=by
 have h1:(i+1)*(w.size+1)≤(w.size+1)*(w.size+1):=Nat.mul_le_mul_right _ (by omega);rw [Nat.add_mul,Nat.one_mul] at h1;show i*(w.size+1)+j<(w.size+1)*(w.size+1);omega
theorem sp_inj {w:ByteArray}{i j a b:Nat}(hj:j≤w.size)(hb:b≤w.size)(e:sp w i j=sp w a b):i=a∧j=b:=by
 unfold sp at e;rcases Nat.lt_trichotomy i a with h|rfl|h
 ·have h1:(i+1)*(w.size+1)≤a*(w.size+1):=Nat.mul_le_mul_right _ h;rw [Nat.add_mul,Nat.one_mul] at h1;omega
 ·exact ⟨rfl,by omega⟩
 ·have h1:(a+1)*(w.size+1)≤i*(w.size+1):=Nat.mul_le_mul_right _ h;rw [Nat.add_mul,Nat.one_mul] at h1;omega
theorem wd_le {w:ByteArray}(hw:w.size≤32):wd w≤1089:=Nat.mul_le_mul (show w.size+1≤33 by omega) (show w.size+1≤33 by omega)
theorem ix_lt {a b:Int}{s D:Nat}(h0:0≤a)(hab:a<b)(hs:s<D):0≤a*(D:Int)+(s:Int)∧a*(D:Int)+(s:Int)<b*(D:Int):=by
 have h1:0≤a*(D:Int):=Int.mul_nonneg h0 (by omega);have h2:(a+1)*(D:Int)≤b*(D:Int):=Int.mul_le_mul_of_nonneg_right hab (by omega);rw [Int.add_mul,Int.one_mul] at h2;omega
theorem ix_inj {a b:Int}{s t D:Nat}(hs:s<D)(ht:t<D)(e:a*(D:Int)+(s:Int)=b*(D:Int)+(t:Int)):a=b∧s=t:=by
 rcases Int.lt_trichotomy a b with h|rfl|h
 ·have h2:(a+1)*(D:Int)≤b*(D:Int):=Int.mul_le_mul_of_nonneg_right h (by omega);rw [Int.add_mul,Int.one_mul] at h2;omega
 ·exact ⟨rfl,by omega⟩
 ·have h2:(b+1)*(D:Int)≤a*(D:Int):=Int.mul_le_mul_of_nonneg_right h (by omega);rw [Int.add_mul,Int.one_mul] at h2;omega
theorem ix_wrap {a:Int}{s D:Nat}(h0:0≤a)(ha:a≤200000)(hs:s<D)(hD:D≤1089):IntKind.wrap .i64 (IntKind.wrap .i64 (a*(D:Int))+(s:Int))=a*(D:Int)+(s:Int):=by
 have h1:0≤a*(D:Int):=Int.mul_nonneg h0 (by omega);have h2:a*(D:Int)≤200000*1089:=Int.mul_le_mul ha (by omega) (by omega) (by decide);rw [wr (a:=a*(D:Int)) (by omega) (by omega),wr (by omega) (by omega)]
def ni (w:ByteArray)(x:Int)(i j:Nat):Int:=x*(wd w:Int)+(sp w i j:Int)
def qi (g:Grammar)(w:ByteArray)(r c k i j:Nat):Int:=(off g r c+(k:Int))*(wd w:Int)+(sp w i j:Int)
def wv (w:ByteArray):Nat→Int:=fun k=>bt w (k:Int)
def NmS (w:ByteArray)(ns:List Int):Sp:=fun x i j=>0<rd ns (ni w x i j)
theorem ni_lt {g:Grammar}{w:ByteArray}{x:Int}{i j:Nat}(h0:0≤x)(h1:x<g.Names.length)(hi:i≤w.size)(hj:j≤w.size):0≤ni w x i j∧ni w x i j<((g.Names.length*wd w:Nat):Int):=by
 have:=ix_lt h0 h1 (sp_lt hi hj);rw [Int.natCast_mul];exact this
theorem qi_lt {g:Grammar}{w:ByteArray}{r c k i j:Nat}(h:Pl g r c k)(hi:i≤w.size)(hj:j≤w.size):0≤qi g w r c k i j∧qi g w r c k i j<total_ g*(wd w:Int):=by
 have h6:=off_in h;exact ix_lt (by omega) h6.2 (sp_lt hi hj)
theorem ni_inj {w:ByteArray}{x y:Int}{i j a b:Nat}(hi:i≤w.size)(hj:j≤w.size)(ha:a≤w.size)(hb:b≤w.size)(e:ni w x i j=ni w y a b):x=y∧i=a∧j=b:=by
 obtain ⟨h1,h2⟩:=ix_inj (sp_lt hi hj) (sp_lt ha hb) e;exact ⟨h1,sp_inj hj hb h2⟩
theorem qi_inj {g:Grammar}{w:ByteArray}{r c k r' c' k' i j a b:Nat}(h:Pl g r c k)(h':Pl g r' c' k')(hi:i≤w.size)(hj:j≤w.size)(ha:a≤w.size)(hb:b≤w.size)(e:qi g w r c k i j=qi g w r' c' k' a b):(r=r'∧c=c'∧k=k')∧i=a∧j=b:=by
 obtain ⟨h1,h2⟩:=ix_inj (sp_lt hi hj) (sp_lt ha hb) e;exact ⟨off_inj h h' h1,sp_inj hj hb h2⟩
def tb (g:Grammar)(w:ByteArray)(ns rs:List Int):L0:=⟨g,w,(wd w:Int),ns,cjs g,rs⟩
section
variable {K:Nat}{g:Grammar}{w:ByteArray}{ns rs:List Int}
theorem t_span (hw:w.size≤32){i j:Nat}(hij:i≤j)(hj:j≤w.size):P6 K (tb g w ns rs) (i:Int) (j:Int)=some (sp w i j:Int):=by
 have hW:(tb g w ns rs).W=w:=rfl;have h1:i*(w.size+1)≤32*33:=Nat.mul_le_mul (by omega) (by omega);have e:(i:Int)*((w.size:Int)+1)=((i*(w.size+1):Nat):Int):=by rw [Int.natCast_mul];rfl
 unfold P6;rw [hW,if_neg (by omega),if_neg (by omega),if_neg (by omega),wr (a:=(w.size:Int)+1) (by omega) (by omega),e,wr (a:=((i*(w.size+1):Nat):Int)) (by omega) (by omega),wr (by omega) (by omega)];rfl
theorem place_eq (r c k:Int):V8 K (tb g w ns rs) ⟨r,c,k⟩=if r<0 then some (-1) else if (g.Rules.length:Int)≤r then some (-1) else if c<0 then some (-1) else if r<(g.Rules.length:Int) then if (((rd g.Rules r).Conj).length:Int)≤c then some (-1) else if k<0 then some (-1) else if c<(((rd g.Rules r).Conj).length:Int) then if (((rd ((rd g.Rules r).Conj) c).Seq).length:Int)<k then some (-1) else if r<((cjs g).length:Int) then if c<((rd (cjs g) r).length:Int) then some (IntKind.wrap .i64 ((rd (rd (cjs g) r) c)+k)) else none else none else none else none:=rfl
theorem symbol_eq (r c k:Int):V9 K (tb g w ns rs) ⟨r,c,k⟩=if 0≤r then if r<(g.Rules.length:Int) then if 0≤c then if c<(((rd g.Rules r).Conj).length:Int) then if k=(((rd ((rd g.Rules r).Conj) c).Seq).length:Int) then some ((⟨(0:Int),(0:Int),(0:Int)⟩:Symbol),false) else if 0≤k then if k<(((rd ((rd g.Rules r).Conj) c).Seq).length:Int) then some (rd ((rd ((rd g.Rules r).Conj) c).Seq) k,true) else none else none else none else none else none else none:=rfl
theorem t_place (hb:Bd g){r c k:Nat}(h:Pl g r c k):V8 K (tb g w ns rs) ⟨(r:Int),(c:Int),(k:Int)⟩=some (off g r c+(k:Int)):=by
 have h1:=h.1;have h2:=h.2.1;have h3:=h.2.2;have h4:=cjs_len g;have h5:=cjs_row h1;have h6:=off_in h;have h7:=total_le hb;rw [place_eq,if_neg (by omega),if_neg (by omega),if_neg (by omega),if_pos (by omega),if_neg (by omega),if_neg (by omega),if_pos (by omega),if_neg (by omega),if_pos (by omega),if_pos (by omega)];show some (IntKind.wrap .i64 (off g r c+(k:Int)))=_;rw [wr (by omega) (by omega)]
theorem t_rest (hb:Bd g)(hw:w.size≤32)(hl:(rs.length:Int)=total_ g*(wd w:Int)){r c k:Nat}(h:Pl g r c k){i j:Nat}(hij:i≤j)(hj:j≤w.size):P8 K (tb g w ns rs) ⟨(r:Int),(c:Int),(k:Int)⟩ (i:Int) (j:Int)=some (decide (0<rd rs (qi g w r c k i j))):=by
 have h6:=off_in h;have h7:=total_le hb;have h8:=qi_lt (w:=w) h (show i≤w.size by omega) hj;unfold P8 Wa;rw [t_span hw hij hj,Option.bind_some,t_place hb h,Option.bind_some,if_neg (by omega),if_neg (by omega)];have e:IntKind.wrap .i64 (IntKind.wrap .i64 ((off g r c+(k:Int))*(tb g w ns rs).wide)+(sp w i j:Int))=qi g w r c k i j:=ix_wrap (by omega) (by omega) (sp_lt (by omega) hj) (wd_le hw);rw [e,if_pos h8.1,if_pos (by show _<(rs.length:Int);omega)];rfl
theorem t_has {x:Int}(hn:g.Names.length≤64)(hw:w.size≤32)(hl:ns.length=g.Names.length*wd w)(h0:0≤x)(h1:x<g.Names.length){i j:Nat}(hij:i≤j)(hj:j≤w.size):W9 K (tb g w ns rs) x (i:Int) (j:Int)=some (decide (0<rd ns (ni w x i j))):=by
 have h8:=ni_lt (g:=g) (w:=w) h0 h1 (show i≤w.size by omega) hj;unfold W9 Jb;have e:IntKind.wrap .i64 (IntKind.wrap .i64 (x*(tb g w ns rs).wide)+(sp w i j:Int))=ni w x i j:=ix_wrap h0 (by omega) (sp_lt (by omega) hj) (wd_le hw);rw [t_span hw hij hj,Option.bind_some,if_neg (by omega),if_neg (by omega),if_neg (by show ¬ ((g.Names.length:Int)≤x);omega),e,if_pos h8.1,if_pos (by show _<(ns.length:Int);omega)];rfl
def NextP (g:Grammar)(w:ByteArray)(ns rs:List Int)(r c k i j:Nat):Prop :=
 (k=(seqA g r c).length∧i=j)∨(k<(seqA g r c).length∧∃ q,i≤q∧q≤j∧SymS (NmS w ns) (wv w) (rd (seqA g r c) (k:Int)) i q∧0<rd rs (qi g w r c (k+1) q j))
theorem t_symbol {r c k:Nat}(h:Pl g r c k):V9 K (tb g w ns rs) ⟨(r:Int),(c:Int),(k:Int)⟩=some (if k=(seqA g r c).length then (⟨0,0,0⟩,false) else (rd (seqA g r c) (k:Int),true)):=by
 have h1:=h.1;have h2:=h.2.1;have h3:=h.2.2;have e0:(rd (rd g.Rules (r:Int)).Conj (c:Int)).Seq=seqA g r c:=rfl;rw [e0] at h3;rw [symbol_eq,if_pos (by omega),if_pos (by omega),if_pos (by omega),if_pos (by omega),e0]
 by_cases e:k=(seqA g r c).length
 ·rw [if_pos (by omega),if_pos e]
 ·rw [if_neg (by omega),if_neg e,if_pos (by omega),if_pos (by omega)]
theorem t_byte (hw:w.size≤32)(x:Symbol){i j:Nat}(hj:j≤w.size):∃ b,fa K (tb g w ns rs) x (i:Int) (j:Int)=some b∧(b=true↔i<j∧x.Lo≤wv w i∧wv w i≤x.Hi):=by
 have hW:(tb g w ns rs).W=w:=rfl;have hb:0≤bt w (i:Int)∧bt w (i:Int)≤255:=by
  unfold bt;have:=(w.data.getD (i:Int).toNat 0).toNat_lt;omega
 have e:wv w i=bt w (i:Int):=rfl;unfold fa;rw [hW,e]
 by_cases h:i<j
 ·rw [if_pos (by omega),if_pos (by omega),if_pos (by omega),wr (a:=bt w (i:Int)) (by omega) (by omega)]
  by_cases h1:x.Lo≤bt w (i:Int)
  ·rw [if_pos h1];exact ⟨_,rfl,by rw [decide_eq_true_eq];exact ⟨fun h2=>⟨h,h1,h2⟩,fun h2=>h2.2.2⟩⟩
  ·rw [if_neg h1];exact ⟨false,rfl,fun h2=>(by cases h2),fun h2=>(h1 h2.2.1).elim⟩
 ·rw [if_neg (by omega)];exact ⟨false,rfl,fun h2=>(by cases h2),fun h2=>(h h2.1).elim⟩
theorem sym_nm {N:Sp}{u:Nat→Int}{x:Symbol}{i q:Nat}(h:0≤x.Name):SymS N u x i q↔N x.Name i q:=by unfold SymS;rw [if_pos h]
theorem sym_by {N:Sp}{u:Nat→Int}{x:Symbol}{i q:Nat}(h:x.Name<0):SymS N u x i q↔q=i+1∧x.Lo≤u i∧u i≤x.Hi:=by unfold SymS;rw [if_neg (by omega)]
theorem t_next (hK:1000≤K)(hb:Bd g)(hn:g.Names.length≤64)(hw:w.size≤32)(hl:ns.length=g.Names.length*wd w)(hr:(rs.length:Int)=total_ g*(wd w:Int))(hs:NmOk g){r c k:Nat}(h:Pl g r c k){i j:Nat}(hij:i≤j)(hj:j≤w.size) :
  ∃ b,j7 K (tb g w ns rs) ⟨(r:Int),(c:Int),(k:Int)⟩ (i:Int) (j:Int)=some b∧(b=true↔NextP g w ns rs r c k i j):=by
 have h1:=h.1;have h2:=h.2.1;have h3:=h.2.2;have e0:(rd (rd g.Rules (r:Int)).Conj (c:Int)).Seq=seqA g r c:=rfl;rw [e0] at h3;unfold j7;rw [t_symbol h,Option.bind_some]
 by_cases e:k=(seqA g r c).length
 ·rw [if_pos e,if_pos (by rfl)];refine ⟨_,rfl,?_⟩;rw [decide_eq_true_eq];constructor
  ·intro hh;exact .inl ⟨e,by omega⟩
  ·rintro (⟨_,hh⟩|⟨hh,_⟩) <;> omega
 ·have hlt:k<(seqA g r c).length:=by omega
  rw [if_neg e];have h64:(seqA g r c).length≤64:=(hb.2 _ (rd_mem (xs:=g.Rules) (i:=(r:Int)) (by omega) (by omega))).2 _ (rd_mem (xs:=(rd g.Rules (r:Int)).Conj) (i:=(c:Int)) (by omega) (by omega));have hm:=hs _ (rd_mem (xs:=g.Rules) (i:=(r:Int)) (by omega) (by omega)) _ (rd_mem (xs:=(rd g.Rules (r:Int)).Conj) (i:=(c:Int)) (by omega) (by omega)) _ (rd_mem (xs:=seqA g r c) (i:=(k:Int)) (by omega) (by omega));have hp:Pl g r c (k+1):=⟨h1,h2,by rw [e0];omega⟩
  have e2:(⟨(r:Int),(c:Int),IntKind.wrap .i64 ((k:Int)+1)⟩:Place)=⟨(r:Int),(c:Int),((k+1:Nat):Int)⟩:=by rw [wr (by omega) (by omega)];rfl
  have hnp:NextP g w ns rs r c k i j↔∃ q,i≤q∧q≤j∧SymS (NmS w ns) (wv w) (rd (seqA g r c) (k:Int)) i q∧0<rd rs (qi g w r c (k+1) q j):=by
   unfold NextP;exact ⟨fun hh=>hh.elim (fun hh=>(e hh.1).elim) fun hh=>hh.2,fun hh=>.inr ⟨hlt,hh⟩⟩
  rw [hnp];generalize rd (seqA g r c) (k:Int)=x at hm;simp only;rw [if_neg (by decide)]
  by_cases c0:x.Name<0
  ·obtain ⟨b,hb1,hb2⟩:=t_byte (K:=K) (g:=g) (ns:=ns) (rs:=rs) hw x (i:=i) hj;have ex:(⟨x.Name,x.Lo,x.Hi⟩:Symbol)=x:=rfl;rw [if_pos c0,ex,hb1,Option.bind_some]
   by_cases cb:b=true
   ·obtain ⟨g1,g2,g3⟩:=hb2.1 cb;have e3:IntKind.wrap .i64 ((i:Int)+1)=((i+1:Nat):Int):=by rw [wr (by omega) (by omega)];rfl
    rw [if_pos cb];simp only [kc,Option.bind_some];rw [e2,e3,t_rest hb hw hr hp (show i+1≤j by omega) hj];refine ⟨_,rfl,?_⟩;rw [decide_eq_true_eq];constructor
    ·intro hh;exact ⟨i+1,by omega,by omega,(sym_by c0).2 ⟨rfl,g2,g3⟩,hh⟩
    ·rintro ⟨q,q1,q2,q3,q4⟩;have:=((sym_by c0).1 q3).1;subst this;exact q4
   ·rw [if_neg cb];refine ⟨false,rfl,fun hh=>(by cases hh),?_⟩;rintro ⟨q,q1,q2,q3,q4⟩;obtain ⟨f1,f2,f3⟩:=(sym_by c0).1 q3;exact (cb (hb2.2 ⟨by omega,f2,f3⟩)).elim
  ·have hx:=hm (by omega);rw [if_neg c0];have key:=rounds (σ:=Int) (ρ:=Int ⊕ Bool) (L:=j7.l0 K (tb g w ns rs) ⟨(r:Int),(c:Int),(k:Int)⟩ (i:Int) (j:Int) (x,true))
    (fun z=>∃ q:Nat,z=(q:Int)∧i≤q∧q≤j+1∧∀ p,i≤p→p<q→¬ (NmS w ns x.Name i p∧0<rd rs (qi g w r c (k+1) p j)))
    (fun z=>j+1-z.toNat)
    (fun ρ=>(ρ = .inr true∧∃ q,i≤q∧q≤j∧NmS w ns x.Name i q∧0<rd rs (qi g w r c (k+1) q j))∨(∃ q,ρ = .inl q∧∀ p,i≤p→p≤j→¬ (NmS w ns x.Name i p∧0<rd rs (qi g w r c (k+1) p j)))) ?_ K (i:Int) ⟨i,rfl,Nat.le_refl _,by omega,fun p _ _=>by omega⟩ (by simp;omega)
   ·obtain ⟨ρ,e1,hρ⟩:=key;rw [e1];rcases hρ with ⟨rfl,q,q1,q2,q3,q4⟩|⟨q,rfl,hq⟩
    ·exact ⟨true,rfl,fun _=>⟨q,q1,q2,(sym_nm (by omega)).2 q3,q4⟩,fun _=>rfl⟩
    ·exact ⟨false,rfl,fun hh=>(by cases hh),fun ⟨q,q1,q2,q3,q4⟩=>(hq q q1 q2 ⟨(sym_nm (by omega)).1 q3,q4⟩).elim⟩
   ·rintro z mm ⟨q,rfl,k1,k2,k3⟩;simp only [j7.l0]
    by_cases hq:q≤j
    ·have e4:IntKind.wrap .i64 ((q:Int)+1)=((q+1:Nat):Int):=by rw [wr (by omega) (by omega)];rfl
     rw [if_pos (by omega),t_has hn hw hl (by omega) hx k1 (by omega),Option.bind_some,e4]
     by_cases c1:0<rd ns (ni w x.Name i q)
     ·rw [decide_eq_true c1,if_pos rfl];simp only [kc,Option.bind_some];rw [e2,t_rest hb hw hr hp hq hj,Option.bind_some]
      by_cases c2:0<rd rs (qi g w r c (k+1) q j)
      ·rw [decide_eq_true c2,if_pos rfl];exact .inl ⟨_,rfl,.inl ⟨rfl,q,k1,hq,c1,c2⟩⟩
      ·rw [decide_eq_false c2,if_neg (by decide)];refine .inr ⟨_,⟨q+1,rfl,by omega,by omega,fun p p1 p2=>?_⟩,by simp;omega,rfl⟩
       by_cases ep:p=q
       ·subst ep;exact fun hh=>c2 hh.2
       ·exact k3 p p1 (by omega)
     ·rw [decide_eq_false c1,if_neg (by decide)];refine .inr ⟨_,⟨q+1,rfl,by omega,by omega,fun p p1 p2=>?_⟩,by simp;omega,rfl⟩
      by_cases ep:p=q
      ·subst ep;exact fun hh=>c1 hh.1
      ·exact k3 p p1 (by omega)
    ·rw [if_neg (by omega)];exact .inl ⟨_,rfl,.inr ⟨_,rfl,fun p p1 p2=>k3 p p1 (by omega)⟩⟩
end
end RT
namespace RT
open S Go.Sort
set_option maxRecDepth 100000
def Sfx (g:Grammar)(w:ByteArray)(ns:List Int)(r c k i j:Nat):Prop:=SeqS (NmS w ns) (wv w) ((seqA g r c).drop k) i j
def SX (g:Grammar)(w:ByteArray)(ns xs:List Int):Prop:=∀ r c k,Pl g r c k→∀ i j,i≤j→j≤w.size→0<rd xs (qi g w r c k i j)→Sfx g w ns r c k i j
def CP (g:Grammar)(w:ByteArray)(ns xs:List Int)(r c k:Nat):Prop:=∀ i j,i≤j→j≤w.size→Sfx g w ns r c k i j→0<rd xs (qi g w r c k i j)
def RX (g:Grammar)(w:ByteArray)(ns xs:List Int)(r:Nat):Prop:=∀ c k,Pl g r c k→CP g w ns xs r c k
theorem CP.ext {g:Grammar}{w:ByteArray}{ns xs ys:List Int}{r c k:Nat}(h:CP g w ns xs r c k)(hp:Pl g r c k)(hl:(xs.length:Int)=total_ g*(wd w:Int))(he:Ext xs ys):CP g w ns ys r c k:=fun i j hij hj hs=>by
 have:=qi_lt (w:=w) hp (show i≤w.size by omega) hj;exact he.2 _ this.1 (by omega) (h i j hij hj hs)
theorem suf_next {g:Grammar}{w:ByteArray}{ns xs:List Int}{r c k i j:Nat}(hx:SX g w ns xs)(h:Pl g r c k)(hj:j≤w.size)(hn:NextP g w ns xs r c k i j):Sfx g w ns r c k i j:=by
 unfold Sfx;rcases hn with ⟨e,rfl⟩|⟨hlt,q,q1,q2,q3,q4⟩
 ·rw [e,List.drop_length];rfl
 ·rw [drop_rd hlt];exact ⟨q,q1,q2,q3,hx r c (k+1) ⟨h.1,h.2.1,hlt⟩ q j q2 hj q4⟩
theorem next_suf {g:Grammar}{w:ByteArray}{ns xs:List Int}{r c k i j:Nat}(h:Pl g r c k)(hj:j≤w.size)(hs:Sfx g w ns r c k i j)(hc:k+1≤(seqA g r c).length→CP g w ns xs r c (k+1)):NextP g w ns xs r c k i j:=by
 unfold Sfx at hs;have h3:k≤(seqA g r c).length:=h.2.2
 by_cases e:k=(seqA g r c).length
 ·rw [e,List.drop_length] at hs;exact .inl ⟨e,hs⟩
 ·have hlt:k<(seqA g r c).length:=by omega
  rw [drop_rd hlt] at hs;obtain ⟨q,q1,q2,q3,q4⟩:=hs;exact .inr ⟨hlt,q,q1,q2,q3,hc hlt q j q2 hj q4⟩
def Gd (g:Grammar)(w:ByteArray)(ns:List Int)(s0 s:List Int×Bool):Prop:=SX g w ns s.1∧Ext s0.1 s.1∧((s.2=s0.2∧s.1=s0.1)∨(s.2=true∧pz s.1<pz s0.1))
theorem Gd.refl {g:Grammar}{w:ByteArray}{ns:List Int}{s:List Int×Bool}(h:SX g w ns s.1):Gd g w ns s s:=⟨h,Ext.refl _,.inl ⟨rfl,rfl⟩⟩
theorem Gd.trans {g:Grammar}{w:ByteArray}{ns:List Int}{s0 s1 s2:List Int×Bool}(h1:Gd g w ns s0 s1)(h2:Gd g w ns s1 s2):Gd g w ns s0 s2:=by
 refine ⟨h2.1,h1.2.1.trans h2.2.1,?_⟩;rcases h1.2.2 with ⟨a,b⟩|⟨a,b⟩ <;> rcases h2.2.2 with ⟨c,d⟩|⟨c,d⟩
 ·exact .inl ⟨c.trans a,d.trans b⟩
 ·exact .inr ⟨c,by rw [b] at d;exact d⟩
 ·exact .inr ⟨c.trans a,by rw [d];exact b⟩
 ·exact .inr ⟨c,Nat.lt_trans d b⟩
section
variable {K:Nat}{g:Grammar}{w:ByteArray}{ns:List Int}(hK:200000≤K)(hb:Bd g)(hn:g.Names.length≤64)(hw:w.size≤32)(hl:ns.length=g.Names.length*wd w)(hs:NmOk g)
include hK hb hn hw hl hs
theorem fr_l3 (rs0:List Int){r c k:Nat}(h:Pl g r c k)(s:List Int×Bool)(hr:(s.1.length:Int)=total_ g*(wd w:Int))(hx:SX g w ns s.1)(hc:k+1≤(seqA g r c).length→CP g w ns s.1 r c (k+1)){a:Nat}(ha:a≤w.size) :
  ∃ s',J0.l3 K (tb g w ns rs0) (r:Int) (c:Int) (k:Int) (a:Int) K (s.1,s.2,(a:Int))=some (s'.1,s'.2,((w.size+1:Nat):Int))∧Gd g w ns s s'∧∀ b,a≤b→b≤w.size→Sfx g w ns r c k a b→0<rd s'.1 (qi g w r c k a b):=by
 have h6:=off_in h;have h7:=total_le hb;have h3:k≤(seqA g r c).length:=h.2.2;have hW:(tb g w ns rs0).W=w:=rfl;have key:=rounds (σ:=List Int×Bool×Int) (ρ:=List Int×Bool×Int) (L:=J0.l3 K (tb g w ns rs0) (r:Int) (c:Int) (k:Int) (a:Int))
  (fun z=>∃ (s1:List Int×Bool) (b:Nat),z=(s1.1,s1.2,(b:Int))∧a≤b∧b≤w.size+1∧Gd g w ns s s1∧∀ b',a≤b'→b'<b→Sfx g w ns r c k a b'→0<rd s1.1 (qi g w r c k a b'))
  (fun z=>w.size+1-z.2.2.toNat)
  (fun ρ=>∃ s':List Int×Bool,ρ=(s'.1,s'.2,((w.size+1:Nat):Int))∧Gd g w ns s s'∧∀ b,a≤b→b≤w.size→Sfx g w ns r c k a b→0<rd s'.1 (qi g w r c k a b)) ?_ K (s.1,s.2,(a:Int)) ⟨s,a,rfl,Nat.le_refl _,by omega,Gd.refl hx,fun b' _ _=>by omega⟩ (by simp;omega)
 ·obtain ⟨ρ,e1,s',rfl,h1,h2⟩:=key;exact ⟨s',e1,h1,h2⟩
 ·rintro z mm ⟨s1,b,rfl,k1,k2,k3,k4⟩;simp only [J0.l3];rw [hW]
  by_cases hq:b≤w.size
  ·have e4:IntKind.wrap .i64 ((b:Int)+1)=((b+1:Nat):Int):=by rw [wr (by omega) (by omega)];rfl
   have e0:(⟨⟨(tb g w ns rs0).G.Start,(tb g w ns rs0).G.Names,(tb g w ns rs0).G.Rules⟩,w,(tb g w ns rs0).wide,(tb g w ns rs0).names,(tb g w ns rs0).conj,s1.1⟩:L0)=tb g w ns s1.1:=rfl;have hl1:(s1.1.length:Int)=total_ g*(wd w:Int):=by rw [k3.2.1.1];exact hr
   have h8:=qi_lt (w:=w) h (show a≤w.size by omega) hq;have hc1:k+1≤(seqA g r c).length→CP g w ns s1.1 r c (k+1):=fun hlt=>(hc hlt).ext ⟨h.1,h.2.1,hlt⟩ hr k3.2.1
   have keep:∀ s2:List Int×Bool,Gd g w ns s1 s2→(Sfx g w ns r c k a b→0<rd s2.1 (qi g w r c k a b))→∀ b',a≤b'→b'<b+1→Sfx g w ns r c k a b'→0<rd s2.1 (qi g w r c k a b'):=fun s2 hg hd b' q1 q2 q3=>by
    by_cases e:b'=b
    ·subst e;exact hd q3
    ·have:=qi_lt (w:=w) h (show a≤w.size by omega) (show b'≤w.size by omega);exact hg.2.1.2 _ this.1 (by omega) (k4 b' q1 (by omega) q3)
   rw [if_pos (by omega),e0,t_rest hb hw hl1 h k1 hq,Option.bind_some,e4]
   by_cases c1:0<rd s1.1 (qi g w r c k a b)
   ·rw [decide_eq_true c1,if_neg (by decide)];exact .inr ⟨_,⟨s1,b+1,rfl,by omega,by omega,k3,keep s1 (Gd.refl k3.1) fun _=>c1⟩,by simp;omega,rfl⟩
   ·rw [decide_eq_false c1,if_pos (by decide)];obtain ⟨t,t1,t2⟩:=t_next (K:=K) (by omega) hb hn hw hl hl1 hs h k1 hq;rw [t1,Option.bind_some]
    by_cases c2:t=true
    ·have ei:IntKind.wrap .i64 (IntKind.wrap .i64 ((off g r c+(k:Int))*(tb g w ns rs0).wide)+(sp w a b:Int))=qi g w r c k a b:=ix_wrap (by omega) (by omega) (sp_lt (by omega) hq) (wd_le hw);rw [if_pos c2,t_place hb h,Option.bind_some,t_span hw k1 hq,Option.bind_some,ei,if_pos h8.1,if_pos (by omega)];have hg:Gd g w ns s1 (s1.1.set (qi g w r c k a b).toNat 1,true):=by
      refine ⟨fun r' c' k' h' i j hij hj hp=>?_,Ext.set h8.1 (by omega),.inr ⟨rfl,pz_set _ _ (by omega) c1⟩⟩;have h8':=qi_lt (w:=w) h' (show i≤w.size by omega) hj;simp only at hp;rw [rdi_set _ h8.1 (by omega) h8'.1] at hp
      split at hp
      ·rename_i e
       obtain ⟨⟨rfl,rfl,rfl⟩,rfl,rfl⟩:=qi_inj h h' (by omega) hq (by omega) hj e;exact suf_next k3.1 h hq (t2.1 c2)
      ·exact k3.1 r' c' k' h' i j hij hj hp
     exact .inr ⟨_,⟨(s1.1.set (qi g w r c k a b).toNat 1,true),b+1,rfl,by omega,by omega,k3.trans hg,keep _ hg fun _=>by
      simp only;rw [rdi_set _ h8.1 (by omega) h8.1,if_pos rfl];decide⟩,by simp;omega,rfl⟩
    ·rw [if_neg c2];exact .inr ⟨_,⟨s1,b+1,rfl,by omega,by omega,k3,keep s1 (Gd.refl k3.1) fun hsf=>(c2 (t2.2 (next_suf h hq hsf hc1))).elim⟩,by simp;omega,rfl⟩
  ·rw [if_neg (by omega)];have:b=w.size+1:=by omega
   subst this;exact .inl ⟨_,rfl,s1,rfl,k3,fun b' q1 q2=>k4 b' q1 (by omega)⟩
theorem fr_l2 (rs0:List Int){r c k:Nat}(h:Pl g r c k)(s:List Int×Bool)(hr:(s.1.length:Int)=total_ g*(wd w:Int))(hx:SX g w ns s.1)(hc:k+1≤(seqA g r c).length→CP g w ns s.1 r c (k+1)) :
  ∃ s',J0.l2 K (tb g w ns rs0) (r:Int) (c:Int) (k:Int) K (s.1,s.2,0)=some (s'.1,s'.2,((w.size+1:Nat):Int))∧Gd g w ns s s'∧CP g w ns s'.1 r c k:=by
 have hW:(tb g w ns rs0).W=w:=rfl;have key:=rounds (σ:=List Int×Bool×Int) (ρ:=List Int×Bool×Int) (L:=J0.l2 K (tb g w ns rs0) (r:Int) (c:Int) (k:Int))
  (fun z=>∃ (s1:List Int×Bool) (a:Nat),z=(s1.1,s1.2,(a:Int))∧a≤w.size+1∧Gd g w ns s s1∧∀ a',a'<a→∀ b,a'≤b→b≤w.size→Sfx g w ns r c k a' b→0<rd s1.1 (qi g w r c k a' b))
  (fun z=>w.size+1-z.2.2.toNat)
  (fun ρ=>∃ s':List Int×Bool,ρ=(s'.1,s'.2,((w.size+1:Nat):Int))∧Gd g w ns s s'∧CP g w ns s'.1 r c k) ?_ K (s.1,s.2,0) ⟨s,0,rfl,by omega,Gd.refl hx,fun a' _=>by omega⟩ (by simp;omega)
 ·obtain ⟨ρ,e1,s',rfl,h1,h2⟩:=key;exact ⟨s',e1,h1,h2⟩
 ·rintro z mm ⟨s1,a,rfl,k2,k3,k4⟩;simp only [J0.l2];rw [hW]
  by_cases hq:a≤w.size
  ·have e4:IntKind.wrap .i64 ((a:Int)+1)=((a+1:Nat):Int):=by rw [wr (by omega) (by omega)];rfl
   have hl1:(s1.1.length:Int)=total_ g*(wd w:Int):=by rw [k3.2.1.1];exact hr
   obtain ⟨s2,g1,g2,g3⟩:=fr_l3 hK hb hn hw hl hs rs0 h s1 hl1 k3.1 (fun hlt=>(hc hlt).ext ⟨h.1,h.2.1,hlt⟩ hr k3.2.1) hq;rw [if_pos (by omega),g1,Option.bind_some,e4];refine .inr ⟨_,⟨s2,a+1,rfl,by omega,k3.trans g2,fun a' q1 b q2 q3 q4=>?_⟩,by simp;omega,rfl⟩
   by_cases e:a'=a
   ·subst e;exact g3 b q2 q3 q4
   ·have:=qi_lt (w:=w) h (show a'≤w.size by omega) q3;exact g2.2.1.2 _ this.1 (by omega) (k4 a' (by omega) b q2 q3 q4)
  ·rw [if_neg (by omega)];have:a=w.size+1:=by omega
   subst this;exact .inl ⟨_,rfl,s1,rfl,k3,fun i j q1 q2=>k4 i (by omega) j q1 q2⟩
theorem fr_l1 (rs0:List Int){r c:Nat}(hr:r<g.Rules.length)(hc:c<(rd g.Rules (r:Int)).Conj.length):∀ (k m:Nat) (s:List Int×Bool),k≤(seqA g r c).length+1→k<m→(s.1.length:Int)=total_ g*(wd w:Int)→SX g w ns s.1→(∀ j,k≤j→j≤(seqA g r c).length→CP g w ns s.1 r c j) →
  ∃ s',J0.l1 K (tb g w ns rs0) (r:Int) (c:Int) m (s.1,s.2,(k:Int)-1)=some (s'.1,s'.2,-1)∧Gd g w ns s s'∧∀ j,j≤(seqA g r c).length→CP g w ns s'.1 r c j
 | 0,m,s,_,hm,ht,hx,hd=>by
  obtain ⟨m,rfl⟩:=sSx hm;simp only [J0.l1];rw [if_neg (by omega)];exact ⟨s,rfl,Gd.refl hx,fun j hj=>hd j (Nat.zero_le _) hj⟩
 | k+1,m,s,hk,hm,ht,hx,hd=>by
  obtain ⟨m,rfl⟩:=sSx hm;have h64:(seqA g r c).length≤64:=(hb.2 _ (rd_mem (xs:=g.Rules) (i:=(r:Int)) (by omega) (by omega))).2 _ (rd_mem (xs:=(rd g.Rules (r:Int)).Conj) (i:=(c:Int)) (by omega) (by omega));have hp:Pl g r c k:=⟨hr,hc,by show k≤(seqA g r c).length;omega⟩
  obtain ⟨s1,g1,g2,g3⟩:=fr_l2 hK hb hn hw hl hs rs0 hp s ht hx (fun hlt=>hd (k+1) (Nat.le_refl _) hlt);obtain ⟨s',h3,h4,h5⟩:=fr_l1 rs0 hr hc k m s1 (by omega) (by omega) (by rw [g2.2.1.1];exact ht) g2.1 (fun j hj hjl=>by
   rcases Nat.eq_or_lt_of_le hj with rfl|hj
   ·exact g3
   ·exact (hd j hj hjl).ext ⟨hr,hc,hjl⟩ ht g2.2.1)
  have e0:((k+1:Nat):Int)-1=(k:Int):=by omega
  refine ⟨s',?_,g2.trans h4,h5⟩;rw [e0];simp only [J0.l1];rw [if_pos (by omega),g1,Option.bind_some,wr (by omega) (by omega)];exact h3
theorem fr_l0 (rs0:List Int){r:Nat}(hr:r<g.Rules.length):∀ (d c m:Nat) (s:List Int×Bool),c+d=(rd g.Rules (r:Int)).Conj.length→d<m→(s.1.length:Int)=total_ g*(wd w:Int)→SX g w ns s.1→(∀ c',c'<c→∀ j,j≤(seqA g r c').length→CP g w ns s.1 r c' j) →
  ∃ s',J0.l0 K (tb g w ns rs0) (r:Int) m (s.1,s.2,(c:Int))=some (s'.1,s'.2,((rd g.Rules (r:Int)).Conj.length:Int))∧Gd g w ns s s'∧RX g w ns s'.1 r
 | 0,c,m,s,hc,hm,ht,hx,hd=>by
  obtain ⟨m,rfl⟩:=sSx hm;have hG:(tb g w ns rs0).G=g:=rfl;simp only [J0.l0];rw [hG,if_neg (by omega)];exact ⟨s,by congr 3;omega,Gd.refl hx,fun c' k hp=>hd c' (by have:=hp.2.1;omega) k hp.2.2⟩
 | d+1,c,m,s,hc,hm,ht,hx,hd=>by
  obtain ⟨m,rfl⟩:=sSx hm;have hrb:=hb.2 _ (rd_mem (xs:=g.Rules) (i:=(r:Int)) (by omega) (by omega));have h8:=hrb.1;have h64:(seqA g r c).length≤64:=hrb.2 _ (rd_mem (xs:=(rd g.Rules (r:Int)).Conj) (i:=(c:Int)) (by omega) (by omega));obtain ⟨s1,h1,h2,h3⟩:=fr_l1 hK hb hn hw hl hs rs0 hr (show c<_ by omega) ((seqA g r c).length+1) K s (by omega) (by omega) ht hx (fun j h1 h2=>by omega);obtain ⟨s2,h4,h5,h6⟩:=fr_l0 rs0 hr d (c+1) m s1 (by omega) (by omega) (by rw [h2.2.1.1];exact ht) h2.1 (fun c' hc' j hj=>by
   rcases Nat.lt_succ_iff_lt_or_eq.1 hc' with hc'|rfl
   ·exact (hd c' hc' j hj).ext ⟨hr,by omega,hj⟩ ht h2.2.1
   ·exact h3 j hj)
  have hG:(tb g w ns rs0).G=g:=rfl;have e1:((rd (rd g.Rules (r:Int)).Conj (c:Int)).Seq.length:Int)=((((seqA g r c).length+1:Nat):Int)-1):=by
   show ((seqA g r c).length:Int)=_;omega
  refine ⟨s2,?_,h2.trans h5,h6⟩;simp only [J0.l0];rw [hG,if_pos (by omega),if_pos (by omega),e1,h1,Option.bind_some,wr (by omega) (by omega)];exact h4
end
end RT
end Go.Proofs.YtcoineklodmbnaaGreat

