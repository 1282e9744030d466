import Derived.Test.YtcoineklodmbnaaGreatW13
set_option linter.unusedVariables false
set_option linter.unusedSimpArgs false
namespace Go.Proofs.YtcoineklodmbnaaGreat
open S
def Fit (n:Int)(es:List Edge):Prop:=∀ e ∈ es,(0≤e.From∧e.From<n)∧0≤e.To∧e.To<n
def May (n:Int)(es:List Edge):Prop:=0≤n∧n≤64∧Fit n es
theorem may_spec (names:Int)(es:List Edge)(hl:es.length<9223372036854775807)(K:Nat)(hK:es.length<K):∃ b,Pb K names es=some b∧(b=true↔May names es):=by
 unfold Pb
 by_cases h0:names<0
 ·exact ⟨false,by rw [if_pos h0],by simp only [Bool.false_eq_true,false_iff];rintro ⟨h,_⟩;omega⟩
 by_cases h1:64<names
 ·exact ⟨false,by rw [if_neg h0,if_pos h1],by simp only [Bool.false_eq_true,false_iff];rintro ⟨_,h,_⟩;omega⟩
 rw [if_neg h0,if_neg h1];obtain ⟨r,hr,hq⟩:=rounds (L:=Pb.l0 K names es) (fun s=>∃ t:Nat,s=t∧t≤es.length∧Fit names (es.take t)) (fun s=>es.length-s.toNat)
  (fun r=>match r with | .inl _=>Fit names es | .inr b=>b=false∧¬ Fit names es) (fun s m hI=>by
   obtain ⟨t,rfl,ht,hf⟩:=hI;simp only [Pb.l0]
   by_cases hlt:(t:Int)<es.length
   ·have hlt':t<es.length:=by omega
    have hm:=rd_mem (xs:=es) (Int.natCast_nonneg t) hlt;rw [if_pos hlt,if_pos (Int.natCast_nonneg t)];generalize hrd:rd es (t:Int)=e at hm
    by_cases a1:e.From<0
    ·exact .inl ⟨.inr false,by rw [if_pos a1],rfl,fun h=>by have:=h e hm;omega⟩
    by_cases a2:names≤e.From
    ·exact .inl ⟨.inr false,by rw [if_neg a1,if_pos a2],rfl,fun h=>by have:=h e hm;omega⟩
    by_cases a3:e.To<0
    ·exact .inl ⟨.inr false,by rw [if_neg a1,if_neg a2,if_pos a3],rfl,fun h=>by have:=h e hm;omega⟩
    by_cases a4:names≤e.To
    ·exact .inl ⟨.inr false,by rw [if_neg a1,if_neg a2,if_neg a3,if_pos a4],rfl,fun h=>by have:=h e hm;omega⟩
    rw [if_neg a1,if_neg a2,if_neg a3,if_neg a4,wr (by omega) (by omega)];refine .inr ⟨(t:Int)+1,⟨t+1,by simp,hlt',?_⟩,?_,rfl⟩
    ·intro x hx;rw [List.take_add_one,List.mem_append] at hx;rcases hx with hx|hx
     ·exact hf x hx
     ·have hg:=rd_get (xs:=es) (Int.natCast_nonneg t) hlt;rw [Int.toNat_natCast,hrd] at hg;rw [hg] at hx;simp at hx;subst hx;omega
    ·omega
   ·rw [if_neg hlt];refine .inl ⟨_,rfl,?_⟩;have:t=es.length:=by omega
    subst this;simpa using hf) K 0 ⟨0,rfl,Nat.zero_le _,by intro e he;simp at he⟩ (by simpa using hK)
 rw [hr]
 cases r with
 | inl s=>exact ⟨true,rfl,by simp only [true_iff];exact ⟨by omega,by omega,hq⟩⟩
 | inr b=>obtain ⟨rfl,hq⟩:=hq;exact ⟨false,rfl,by simp only [Bool.false_eq_true,false_iff];rintro ⟨_,_,h⟩;exact hq h⟩
def RB (n:Nat)(xs:List Int)(R:Nat→Nat→Prop):Prop:=xs.length=n∧∀ i,i<n→∃ b:Nat,b<2 ^ 64∧rd xs (i:Int)=b∧∀ j,b.testBit j=true↔R i j
theorem RB.cong {n:Nat}{xs:List Int}{R S:Nat→Nat→Prop}(h:RB n xs R)(e:∀ i j,i<n→(R i j↔S i j)):RB n xs S :=
 ⟨h.1,fun i hi=>by obtain ⟨b,h1,h2,h3⟩:=h.2 i hi;exact ⟨b,h1,h2,fun j=>(h3 j).trans (e i j hi)⟩⟩
theorem RB.put {n:Nat}{xs:List Int}{R S:Nat→Nat→Prop}{t b:Nat}(h:RB n xs R)(ht:t<n)(hb:b<2 ^ 64)(hs:∀ j,b.testBit j=true↔S t j)(he:∀ i j,i<n→i≠t→(R i j↔S i j)):RB n (xs.set t (b:Int)) S:=by
 refine ⟨by simpa using h.1,fun i hi=>?_⟩;rw [rd_set _ (by rw [h.1];exact ht)]
 by_cases e:t=i
 ·subst e;exact ⟨b,hb,by simp,hs⟩
 ·obtain ⟨b',h1,h2,h3⟩:=h.2 i hi;exact ⟨b',h1,by rw [if_neg e];exact h2,fun j=>(h3 j).trans (he i j hi fun x=>e x.symm)⟩
def W (k:Nat)(R:Nat→Nat→Prop):Nat→Nat→Prop:=fun i j=>R i j∨(R i k∧R k j)
def Ws:Nat→(Nat→Nat→Prop)→Nat→Nat→Prop
 | 0,R=>R
 | k+1,R=>W k (Ws k R)
theorem W_row (k:Nat)(R:Nat→Nat→Prop)(j:Nat):W k R k j↔R k j:=⟨fun h=>h.elim id fun h=>h.2,fun h=>.inl h⟩
theorem W_col (k:Nat)(R:Nat→Nat→Prop)(i:Nat):W k R i k↔R i k:=⟨fun h=>h.elim id fun h=>h.1,fun h=>.inl h⟩
theorem Ws_mono (R:Nat→Nat→Prop)(k i j:Nat)(h:R i j):Ws k R i j:=by
 induction k with
 | zero=>exact h
 | succ k ih=>exact .inl ih
theorem Ws_trans (R:Nat→Nat→Prop)(k:Nat):∀ m,m<k→∀ i j,Ws k R i m→Ws k R m j→Ws k R i j:=by
 induction k with
 | zero=>intro m h;exact absurd h (Nat.not_lt_zero _)
 | succ k ih =>
  intro m hm i j h1 h2;rcases Nat.lt_or_eq_of_le (Nat.le_of_lt_succ hm) with h|rfl
  ·rcases h1 with h1|⟨h1,h1'⟩ <;> rcases h2 with h2|⟨h2,h2'⟩
   ·exact .inl (ih m h i j h1 h2)
   ·exact .inr ⟨ih m h i k h1 h2,h2'⟩
   ·exact .inr ⟨h1,ih m h k j h1' h2⟩
   ·exact .inr ⟨h1,h2'⟩
  ·exact .inr ⟨(W_col _ _ _).1 h1,(W_row _ _ _).1 h2⟩
theorem Ws_least (R S:Nat→Nat→Prop)(hs:∀ i j,R i j→S i j)(ht:∀ i j k,S i j→S j k→S i k)(k i j:Nat)(h:Ws k R i j):S i j:=by
 induction k generalizing i j with
 | zero=>exact hs i j h
 | succ k ih =>
         rcases h with h|⟨h1,h2⟩
         ·exact ih i j h
         ·exact ht i k j (ih _ _ h1) (ih _ _ h2)
inductive Reach (es:List Edge):Int→Int→Prop
 | refl (i:Int):Reach es i i
 | step {i:Int} {e:Edge}:Reach es i e.From→e ∈ es→Reach es i e.To
theorem Reach.trans {es:List Edge}{i j k:Int}(h1:Reach es i j)(h2:Reach es j k):Reach es i k:=by
 induction h2 with
 | refl=>exact h1
 | step _ he ih=>exact .step ih he
def R0 (es:List Edge)(i j:Nat):Prop:=i=j∨∃ e ∈ es,e.From=i∧e.To=j
theorem Ws_reach {n:Nat}{es:List Edge}(hf:Fit n es){i j:Nat}(hi:i<n):Ws n (R0 es) i j↔Reach es i j:=by
 constructor
 ·refine Ws_least (R0 es) (fun i j=>Reach es i j) (fun i j h=>?_) (fun i j k=>Reach.trans) n i j;rcases h with rfl|⟨e,he,h1,h2⟩
  ·exact .refl _
  ·rw [← h2,← h1];exact .step (.refl _) he
 ·intro h;have:∀ a b:Int,Reach es a b→∀ i:Nat,a=i→i<n→∃ j:Nat,b=j∧j<n∧Ws n (R0 es) i j:=by
   intro a b h
   induction h with
   | refl=>intro i hi hn;exact ⟨i,hi,hn,Ws_mono _ _ _ _ (.inl rfl)⟩
   | @step e _ he ih =>
    intro i hi hn;obtain ⟨m,h1,h2,h3⟩:=ih i hi hn;obtain ⟨⟨_,_⟩,h4,h5⟩:=hf e he;refine ⟨e.To.toNat,by omega,by omega,Ws_trans _ _ m h2 _ _ h3 (Ws_mono _ _ _ _ (.inr ⟨e,he,h1,by omega⟩))⟩
  obtain ⟨j',h1,_,h3⟩:=this i j h i rfl hi;have:j'=j:=by omega
  subst this;exact h3
theorem l0_spec (n:Nat)(hn:n≤64)(K m:Nat)(hm:n<m):∃ r,L5.l0 K n m (List.replicate n 0,0)=some r∧RB n r.1 (fun i j=>i=j):=by
 refine rounds (L:=L5.l0 K n) (fun s=>∃ t:Nat,s.2=t∧t≤n∧s.1.length=n∧∀ i,i<t→rd s.1 (i:Int)=((2 ^ i:Nat):Int)) (fun s=>n-s.2.toNat) (fun r=>RB n r.1 (fun i j=>i=j)) (fun s m hI=>?_) m _ ⟨0,rfl,Nat.zero_le _,by simp,by intro i h;omega⟩ (by simpa using hm);obtain ⟨xs,t'⟩:=s;obtain ⟨t,rfl,ht,hl,hv⟩:=hI;simp only at hl hv;simp only [L5.l0,Int.toNat_natCast,List.length_replicate]
 by_cases hlt:(t:Int)<n
 ·have hlt':t<n:=by omega
  rw [if_pos hlt,if_pos (Int.natCast_nonneg t),if_pos (by omega),wr (by omega) (by omega),ishl_nat (by omega)];refine .inr ⟨_,⟨t+1,by simp,hlt',by simpa using hl,fun i hi=>?_⟩,by simp only;omega,rfl⟩;rw [rd_set _ (by omega)]
  by_cases e:t=i
  ·subst e;simp
  ·rw [if_neg e];exact hv i (by omega)
 ·rw [if_neg hlt];refine .inl ⟨_,rfl,hl,fun i hi=>⟨2 ^ i,Nat.pow_lt_pow_right (by decide) (by omega),hv i (by omega),fun j=>?_⟩⟩;rw [Nat.testBit_two_pow,decide_eq_true_eq]
theorem l1_spec (n:Nat)(hn:n≤64)(es:List Edge)(hl:es.length<9223372036854775807)(hf:Fit n es)(xs:List Int)(hx:RB n xs (fun i j=>i=j))(K m:Nat)(hm:es.length<m):∃ r,L5.l1 K es m (xs,0)=some r∧RB n r.1 (R0 es):=by
 refine rounds (L:=L5.l1 K es) (fun s=>∃ t:Nat,s.2=t∧t≤es.length∧RB n s.1 (R0 (es.take t))) (fun s=>es.length-s.2.toNat) (fun r=>RB n r.1 (R0 es)) (fun s m hI=>?_) m _ ⟨0,rfl,Nat.zero_le _,hx.cong fun i j _=>by simp [R0]⟩ (by simpa using hm);obtain ⟨xs,t'⟩:=s;obtain ⟨t,rfl,ht,hv⟩:=hI;simp only at hv;simp only [L5.l1]
 by_cases hlt:(t:Int)<es.length
 ·have hlt':t<es.length:=by omega
  have hm:=rd_mem (xs:=es) (Int.natCast_nonneg t) hlt;have hg:=rd_get (xs:=es) (Int.natCast_nonneg t) hlt;rw [if_pos hlt,if_pos (Int.natCast_nonneg t)];rw [Int.toNat_natCast] at hg;generalize rd es (t:Int)=e at hm hg;obtain ⟨⟨f0,f1⟩,f2,f3⟩:=hf e hm;obtain ⟨p,hp⟩:=Int.eq_ofNat_of_zero_le f0;obtain ⟨q,hq⟩:=Int.eq_ofNat_of_zero_le f2;obtain ⟨b,b1,b2,b3⟩:=hv.2 p (by omega);have hq64:q<64:=by omega
  rw [if_pos f0,if_pos (by rw [hv.1];exact f1),if_pos f2,hp,hq,wr (by omega) (by omega),b2,ishl_nat hq64,ior_nat b1 (Nat.pow_lt_pow_right (by decide) hq64),Int.toNat_natCast];refine .inr ⟨_,⟨t+1,by simp,hlt',hv.put (S:=R0 (es.take (t+1))) (by omega) (Nat.or_lt_two_pow b1 (Nat.pow_lt_pow_right (by decide) hq64)) (fun j=>?_) (fun i j hi hne=>?_)⟩,by simp only;omega,rfl⟩
  ·rw [Nat.testBit_or,Bool.or_eq_true,b3,Nat.testBit_two_pow,decide_eq_true_eq];simp only [R0,List.take_add_one,hg,List.mem_append,Option.toList_some,List.mem_singleton];constructor
   ·rintro ((h|⟨x,hx,h1,h2⟩)|h)
    ·exact .inl h
    ·exact .inr ⟨x,.inl hx,h1,h2⟩
    ·exact .inr ⟨e,.inr rfl,by omega,by omega⟩
   ·rintro (h|⟨x,hx|rfl,h1,h2⟩)
    ·exact .inl (.inl h)
    ·exact .inl (.inr ⟨x,hx,h1,h2⟩)
    ·exact .inr (by omega)
  ·simp only [R0,List.take_add_one,hg,List.mem_append,Option.toList_some,List.mem_singleton];constructor
   ·rintro (h|⟨x,hx,h1,h2⟩)
    ·exact .inl h
    ·exact .inr ⟨x,.inl hx,h1,h2⟩
   ·rintro (h|⟨x,hx|rfl,h1,h2⟩)
    ·exact .inl h
    ·exact .inr ⟨x,hx,h1,h2⟩
    ·omega
 ·rw [if_neg hlt];have:t=es.length:=by omega
  subst this;exact .inl ⟨_,rfl,by simpa using hv⟩
theorem l3_spec (n:Nat)(hn:n≤64)(k:Nat)(hk:k<n)(R:Nat→Nat→Prop)(xs:List Int)(hx:RB n xs R)(K m:Nat)(hm:n<m):∃ r,L5.l3 K xs k m (xs,0)=some r∧RB n r.1 (W k R):=by
 refine rounds (L:=L5.l3 K xs k) (fun s=>∃ t:Nat,s.2=t∧t≤n∧RB n s.1 (fun i j=>if i<t then W k R i j else R i j)) (fun s=>n-s.2.toNat) (fun r=>RB n r.1 (W k R)) (fun s m hI=>?_) m _ ⟨0,rfl,Nat.zero_le _,hx.cong fun i j _=>by simp⟩ (by simpa using hm);obtain ⟨ys,t'⟩:=s;obtain ⟨t,rfl,ht,hv⟩:=hI;simp only at hv;simp only [L5.l3]
 by_cases hlt:(t:Int)<xs.length
 ·have hlt':t<n:=by rw [hx.1] at hlt;omega
  obtain ⟨b,b1,b2,b3⟩:=hv.2 t hlt';obtain ⟨c,c1,c2,c3⟩:=hv.2 k hk;simp only [Nat.lt_irrefl,if_false] at b3;rw [if_pos hlt,if_pos (Int.natCast_nonneg t),if_pos (by rw [hv.1];omega),if_pos (Int.natCast_nonneg k),b2,shr_bit b1,wr (by omega) (by omega)]
  by_cases hb:b.testBit k=true
  ·rw [if_pos hb,if_pos rfl,if_pos (by rw [hv.1];omega),c2,ior_nat b1 c1];refine .inr ⟨_,⟨t+1,by simp,hlt',hv.put hlt' (Nat.or_lt_two_pow b1 c1) (fun j=>?_) fun i j hi hne=>?_⟩,by simp only;omega,rfl⟩
   ·rw [Nat.testBit_or,Bool.or_eq_true,b3,c3,if_pos (by omega)];have hc:(if k<t then W k R k j else R k j)↔R k j:=by split;exact W_row k R j;exact Iff.rfl
    show R t j∨(if k<t then W k R k j else R k j)↔_;rw [hc];constructor
    ·rintro (h|h)
     ·exact .inl h
     ·exact .inr ⟨(b3 k).1 hb,h⟩
    ·rintro (h|h)
     ·exact .inl h
     ·exact .inr h.2
   ·by_cases e:i<t
    ·rw [if_pos e,if_pos (by omega)]
    ·rw [if_neg e,if_neg (by omega)]
  ·rw [if_neg hb,if_neg (by decide)];refine .inr ⟨_,⟨t+1,by simp,hlt',hv.cong fun i j hi=>?_⟩,by simp only;omega,rfl⟩
   by_cases e:i<t
   ·rw [if_pos e,if_pos (by omega)]
   ·rw [if_neg e]
    by_cases e2:i=t
    ·subst e2;rw [if_pos (by omega)];exact ⟨fun h=>.inl h,fun h=>h.elim id fun h=>absurd ((b3 k).2 h.1) hb⟩
    ·rw [if_neg (by omega)]
 ·rw [if_neg hlt];refine .inl ⟨_,rfl,hv.cong fun i j hi=>?_⟩;rw [hx.1] at hlt;rw [if_pos (by omega)]
theorem l2_spec (n:Nat)(hn:n≤64)(R:Nat→Nat→Prop)(xs:List Int)(hx:RB n xs R)(K m:Nat)(hK:n<K)(hm:n<m):∃ r,L5.l2 K xs m (xs,0)=some r∧RB n r.1 (Ws n R):=by
 refine rounds (L:=L5.l2 K xs) (fun s=>∃ t:Nat,s.2=t∧t≤n∧RB n s.1 (Ws t R)) (fun s=>n-s.2.toNat) (fun r=>RB n r.1 (Ws n R)) (fun s m hI=>?_) m _ ⟨0,rfl,Nat.zero_le _,hx⟩ (by simpa using hm);obtain ⟨ys,t'⟩:=s;obtain ⟨t,rfl,ht,hv⟩:=hI;simp only at hv;simp only [L5.l2]
 by_cases hlt:(t:Int)<xs.length
 ·have hlt':t<n:=by rw [hx.1] at hlt;omega
  obtain ⟨⟨r1,r2⟩,h1,h2⟩:=l3_spec n hn t hlt' (Ws t R) ys hv K K hK;rw [if_pos hlt,h1,wr (by omega) (by omega)];exact .inr ⟨(r1,(t:Int)+1),⟨t+1,by simp,hlt',h2⟩,by simp only;omega,rfl⟩
 ·rw [if_neg hlt];rw [hx.1] at hlt;have:t=n:=by omega
  subst this;exact .inl ⟨_,rfl,hv⟩
theorem reach_spec (n:Nat)(hn:n≤64)(es:List Edge)(hl:es.length<9223372036854775807)(hf:Fit n es)(K:Nat)(hK:n<K)(hK':es.length<K):∃ xs,L5 K n es=some xs∧RB n xs (fun i j=>Reach es i j):=by
 obtain ⟨⟨x0,t0⟩,h0,g0⟩:=l0_spec n hn K K hK;obtain ⟨⟨x1,t1⟩,h1,g1⟩:=l1_spec n hn es hl hf x0 g0 K K hK';obtain ⟨⟨x2,t2⟩,h2,g2⟩:=l2_spec n hn _ x1 g1 K K hK hK;refine ⟨x2,?_,g2.cong fun i j hi=>Ws_reach hf hi⟩;unfold L5;rw [if_pos (Int.natCast_nonneg n),if_pos (by omega),Int.toNat_natCast,h0];simp only [Option.bind_some,h1,h2]
theorem Reaches_spec (names:Int)(es:List Edge)(a b:Int)(hl:es.length<9223372036854775807)(K:Nat)(hK:64<K)(hK':es.length<K):∃ r,fd K names es a b=some r∧(r=true↔May names es∧(0≤a∧a<names)∧(0≤b∧b<names)∧Reach es a b):=by
 obtain ⟨m,hm,hm'⟩:=may_spec names es hl K hK';unfold fd;rw [hm];simp only [Option.bind_some]
 by_cases hmay:May names es
 ·have:=hm'.2 hmay;subst this;have hmay':=hmay;obtain ⟨h0,h1,hf⟩:=hmay';obtain ⟨n,rfl⟩:=Int.eq_ofNat_of_zero_le h0;rw [if_neg (by decide)]
  by_cases a1:a<0
  ·exact ⟨false,by rw [if_pos a1],by simp only [Bool.false_eq_true,false_iff];rintro ⟨_,_,_⟩;omega⟩
  by_cases a2:(n:Int)≤a
  ·exact ⟨false,by rw [if_neg a1,if_pos a2],by simp only [Bool.false_eq_true,false_iff];rintro ⟨_,_,_⟩;omega⟩
  by_cases a3:b<0
  ·exact ⟨false,by rw [if_neg a1,if_neg a2,if_pos a3],by simp only [Bool.false_eq_true,false_iff];rintro ⟨_,_,_,_⟩;omega⟩
  by_cases a4:(n:Int)≤b
  ·exact ⟨false,by rw [if_neg a1,if_neg a2,if_neg a3,if_pos a4],by simp only [Bool.false_eq_true,false_iff];rintro ⟨_,_,_,_⟩;omega⟩
  obtain ⟨i,rfl⟩:=Int.eq_ofNat_of_zero_le (show 0≤a by omega);obtain ⟨j,rfl⟩:=Int.eq_ofNat_of_zero_le (show 0≤b by omega);obtain ⟨xs,h2,h3,h4⟩:=reach_spec n (by omega) es hl hf K (by omega) hK';obtain ⟨c,c1,c2,c3⟩:=h4 i (by omega);rw [if_neg a1,if_neg a2,if_neg a3,if_neg a4,h2];simp only [Option.bind_some];rw [if_pos (by rw [h3];omega),c2,shr_bit c1];refine ⟨_,rfl,?_⟩;rw [decide_eq_true_eq]
  by_cases hb:c.testBit j=true
  ·rw [if_pos hb];simp only [true_iff];exact ⟨hmay,by omega,by omega,(c3 j).1 hb⟩
  ·rw [if_neg hb];refine ⟨fun h=>absurd h (by decide),fun h=>absurd ((c3 j).2 h.2.2.2) hb⟩
 ·have:m=false:=by cases m;rfl;exact absurd (hm'.1 rfl) hmay
  subst this;exact ⟨false,rfl,by simp only [Bool.false_eq_true,false_iff];exact fun h=>hmay h.1⟩
def BLe (xs ys:List Bool):Prop:=xs.length=ys.length∧∀ i:Nat,i<xs.length→rd xs (i:Int)=true→rd ys (i:Int)=true
theorem BLe.refl (xs:List Bool):BLe xs xs:=⟨rfl,fun _ _ h=>h⟩
theorem BLe.trans {xs ys zs:List Bool}(h1:BLe xs ys)(h2:BLe ys zs):BLe xs zs:=⟨h1.1.trans h2.1,fun i hi h=>h2.2 i (by have:=h1.1;omega) (h1.2 i hi h)⟩
theorem count_lt:∀ {xs ys:List Bool},BLe xs ys→xs≠ys→xs.count true<ys.count true:=by
 have le:∀ {xs ys:List Bool},BLe xs ys→xs.count true≤ys.count true:=by
  intro xs
  induction xs with
  | nil=>intro ys h;simp
  | cons x xs ih =>
   intro ys h
   cases ys with
   | nil=>have:=h.1;simp at this
   | cons y ys =>
    have ht:BLe xs ys:=⟨by have:=h.1;simpa using this,fun i hi hx=>by
     have:=h.2 (i+1) (by simp;omega);simp only [rd,Int.toNat_natCast,List.getD_cons_succ] at this hx ⊢;exact this hx⟩
    have h0:=h.2 0 (by simp);simp only [rd,Int.toNat_natCast,List.getD_cons_zero] at h0;have:=ih ht;cases x <;> cases y <;> simp at h0 ⊢ <;> omega
 intro xs
 induction xs with
 | nil=>intro ys h hne;have:=h.1;simp at this;exact absurd (by rw [List.eq_nil_of_length_eq_zero this.symm]) hne
 | cons x xs ih =>
  intro ys h hne
  cases ys with
  | nil=>have:=h.1;simp at this
  | cons y ys =>
   have ht:BLe xs ys:=⟨by have:=h.1;simpa using this,fun i hi hx=>by
    have:=h.2 (i+1) (by simp;omega);simp only [rd,Int.toNat_natCast,List.getD_cons_succ] at this hx ⊢;exact this hx⟩
   have h0:=h.2 0 (by simp);simp only [rd,Int.toNat_natCast,List.getD_cons_zero] at h0
   by_cases e:xs=ys
   ·subst e;cases x <;> cases y <;> simp at h0 hne ⊢
   ·have:=ih ht e;cases x <;> cases y <;> simp at h0 ⊢ <;> omega
section
open S Go.Sort
set_option maxRecDepth 100000
theorem rdi_set {T:Type}[Inhabited T]{xs:List T}{i j:Int}(x:T)(h0:0≤i)(h1:i<xs.length)(hj:0≤j):rd (xs.set i.toNat x) j=if i=j then x else rd xs j:=by
 obtain ⟨a,rfl⟩:=Int.eq_ofNat_of_zero_le h0;obtain ⟨b,rfl⟩:=Int.eq_ofNat_of_zero_le hj;rw [Int.toNat_natCast,rd_set x (by omega)]
 by_cases e:a=b
 ·rw [if_pos e,if_pos (by omega)]
 ·rw [if_neg e,if_neg (by omega)]
theorem rdi_ext {T:Type}[Inhabited T]{n:Nat}{xs ys:List T}(h1:xs.length=n)(h2:ys.length=n)(h:∀ i:Int,0≤i→i<n→rd xs i=rd ys i):xs=ys:=by
 refine List.ext_getElem (by omega) fun i hi hj=>?_
 have:=h (i:Int) (by omega) (by omega)
 rwa [rd_nat,rd_nat,List.getD_eq_getElem?_getD,List.getD_eq_getElem?_getD,List.getElem?_eq_getElem hi,List.getElem?_eq_getElem hj] at this
theorem rdi_rep {T:Type}[Inhabited T]{n:Nat}{i:Int}(x:T)(h0:0≤i)(h:i<n):rd (List.replicate n x) i=x:=by
 obtain ⟨a,rfl⟩:=Int.eq_ofNat_of_zero_le h0;exact rd_rep x (by omega)
def ng (e:Edge):Int:=if e.Neg=true then 1 else 0
theorem ng_le (e:Edge):0≤ng e∧ng e≤1:=by unfold ng;split <;> omega
def Stab (es:List Edge)(P:Int→Int):Prop:=∀ e ∈ es,P e.To+ng e≤P e.From
def Pos (n:Nat)(P:Int→Int):Prop:=∀ i:Int,0≤i→i<n→0≤P i
def Low (n:Nat)(es:List Edge)(xs:List Int):Prop:=xs.length=n∧Pos n (rd xs)∧∀ P,Stab es P→Pos n P→∀ i:Int,0≤i→i<n→rd xs i≤P i
def Lev (n:Nat)(es:List Edge)(xs:List Int):Prop:=Low n es xs∧Stab es (rd xs)
theorem Lev.uniq {n:Nat}{es:List Edge}{xs ys:List Int}(h1:Lev n es xs)(h2:Lev n es ys):xs=ys :=
 rdi_ext h1.1.1 h2.1.1 fun i a b=>Int.le_antisymm (h1.1.2.2 _ h2.2 h2.1.2.1 i a b) (h2.1.2.2 _ h1.2 h1.1.2.1 i a b)
theorem Low.zero (n:Nat)(es:List Edge):Low n es (List.replicate n 0):=⟨by simp,fun i a b=>by rw [rdi_rep _ a b];exact Int.le_refl _,fun P _ h i a b=>by rw [rdi_rep _ a b];exact h i a b⟩
theorem Low.put {n:Nat}{es:List Edge}{xs:List Int}(h:Low n es xs)(hf:Fit n es){e:Edge}(he:e ∈ es){v:Int}(hv:v≤rd xs e.To+ng e)(h0:0≤v):Low n es (xs.set e.From.toNat v):=by
 obtain ⟨⟨a,b⟩,c,d⟩:=hf e he;refine ⟨by simpa using h.1,fun i p q=>?_,fun P hP hp i p q=>?_⟩
 ·rw [rdi_set v a (by rw [h.1];exact b) p];split
  ·exact h0
  ·exact h.2.1 i p q
 ·rw [rdi_set v a (by rw [h.1];exact b) p];split
  ·rename_i e1;subst e1
   have:=hP e he;have:=h.2.2 P hP hp e.To c d;omega
  ·exact h.2.2 P hP hp i p q
def mu:List Int→Nat
 | []=>0
 | v::xs=>(64-v).toNat+mu xs
theorem mu_set:∀ (xs:List Int) (i:Nat) (v:Int),i<xs.length→xs.getD i default<v→v≤64→mu (xs.set i v)<mu xs
 | [],i,v,h,_,_=>by simp at h
 | x::xs,0,v,_,h1,h2=>by
  have:x<v:=h1;simp only [List.set_cons_zero,mu];omega
 | x::xs,i+1,v,h,h1,h2=>by
  have:=mu_set xs i v (by simpa using h) (by simpa using h1) h2;simp only [List.set_cons_succ,mu];omega
theorem mu_rep (n:Nat):mu (List.replicate n 0)=64*n:=by
 induction n with
 | zero=>rfl
 | succ n ih=>rw [List.replicate_succ,mu,ih];omega
theorem str_l1 (K:Nat)(hK:200000≤K)(n:Nat)(es:List Edge)(q:Int)(hf:Fit n es)(hl:es.length≤131072)(B:∃ P,Stab es P∧Pos n P∧∀ i:Int,0≤i→i<n→P i≤63)(x0:List Int)(h0:Low n es x0) :
  ∃ r,g7.l1 K (es,q) K (x0,false,0)=some r∧Low n es r.1∧((r.2.1=false∧Stab es (rd r.1))∨(r.2.1=true∧mu r.1<mu x0)):=by
 obtain ⟨P,hP,hp,h63⟩:=B;refine rounds (L:=g7.l1 K (es,q)) (fun s=>∃ t:Nat,s.2.2=t∧t≤es.length∧Low n es s.1∧((s.2.1=false∧s.1=x0∧Stab (es.take t) (rd x0))∨(s.2.1=true∧mu s.1<mu x0))) (fun s=>es.length-s.2.2.toNat) (fun r=>Low n es r.1∧((r.2.1=false∧Stab es (rd r.1))∨(r.2.1=true∧mu r.1<mu x0))) (fun s m hI=>?_) K _ ⟨0,rfl,Nat.zero_le _,h0,.inl ⟨rfl,rfl,by intro e he;simp at he⟩⟩ (by show es.length-0<K;omega);obtain ⟨xs,g,t'⟩:=s;obtain ⟨t,rfl,ht,hv,hd⟩:=hI;simp only at hv hd;simp only [g7.l1]
 by_cases hlt:(t:Int)<es.length
 ·have hlt':t<es.length:=by omega
  have hm:=rd_mem (xs:=es) (Int.natCast_nonneg t) hlt;have hg:=rd_get (xs:=es) (Int.natCast_nonneg t) hlt;rw [if_pos hlt,if_pos (Int.natCast_nonneg t)];rw [Int.toNat_natCast] at hg;generalize rd es (t:Int)=e at hm hg;obtain ⟨⟨f0,f1⟩,f2,f3⟩:=hf e hm;have hT0:=hv.2.1 e.To f2 f3;have hT1:=hv.2.2 P hP hp e.To f2 f3;have hT2:=h63 e.To f2 f3;have hF0:=hv.2.1 e.From f0 f1;have hng:=ng_le e;have he:(if e.Neg=true then some (IntKind.wrap .i64 (rd xs e.To+1)) else some (rd xs e.To))=some (rd xs e.To+ng e):=by
   unfold ng
   split
   ·rw [wr (by omega) (by omega)]
   ·rw [Int.add_zero]
  rw [if_pos f2,if_pos (by rw [hv.1];exact f3),he,Option.bind_some,if_pos f0,if_pos (by rw [hv.1];exact f1),wr (by omega) (by omega)]
  by_cases hc:rd xs e.From<rd xs e.To+ng e
  ·rw [if_pos hc];refine .inr ⟨_,⟨t+1,by simp,hlt',hv.put hf hm (Int.le_refl _) (by omega),.inr ⟨rfl,?_⟩⟩,by simp only;omega,rfl⟩;have h1:=mu_set xs e.From.toNat (rd xs e.To+ng e) (by rw [hv.1];omega) hc (by omega);rcases hd with ⟨_,h2,_⟩|⟨_,h2⟩
   ·subst h2;exact h1
   ·exact Nat.lt_trans h1 h2
  ·rw [if_neg hc];refine .inr ⟨_,⟨t+1,by simp,hlt',hv,?_⟩,by simp only;omega,rfl⟩;rcases hd with ⟨h1,h2,h3⟩|h1
   ·refine .inl ⟨h1,h2,fun x hx=>?_⟩;rw [List.take_add_one,hg,List.mem_append] at hx;rcases hx with hx|hx
    ·exact h3 x hx
    ·simp only [Option.toList_some,List.mem_singleton] at hx;subst hx;subst h2;omega
   ·exact .inr h1
 ·rw [if_neg hlt];refine .inl ⟨_,rfl,hv,?_⟩;have:t=es.length:=by omega
  subst this;rcases hd with ⟨h1,h2,h3⟩|h1
  ·rw [List.take_length] at h3;exact .inl ⟨h1,by simp only [h2];exact h3⟩
  ·exact .inr h1
theorem str_l0 (K:Nat)(hK:200000≤K)(n:Nat)(hn:n≤64)(es:List Edge)(q:Int)(hf:Fit n es)(hl:es.length≤131072)(B:∃ P,Stab es P∧Pos n P∧∀ i:Int,0≤i→i<n→P i≤63) :
  ∃ r,g7.l0 K (es,q) K (List.replicate n 0,true)=some r∧Lev n es r.1:=by
 have h64:=mu_rep n;refine rounds (L:=g7.l0 K (es,q)) (fun s=>Low n es s.1∧(s.2=true∨Stab es (rd s.1))) (fun s=>if s.2=true then mu s.1+1 else 0) (fun r=>Lev n es r.1) (fun s m hI=>?_) K _ ⟨Low.zero n es,.inl rfl⟩ (by simp only [if_true];omega);obtain ⟨xs,g⟩:=s;obtain ⟨h1,h2⟩:=hI;simp only at h1 h2;simp only [g7.l0]
 cases g with
 | false =>
  rw [if_neg (by decide)];exact .inl ⟨_,rfl,h1,h2.resolve_left (by decide)⟩
 | true =>
  obtain ⟨⟨ys,g,t⟩,h3,h4,h5⟩:=str_l1 K hK n es q hf hl B xs h1;rw [if_pos rfl,h3,Option.bind_some];simp only at h4 h5;rcases h5 with ⟨rfl,h5⟩|⟨rfl,h5⟩
  ·exact .inr ⟨(ys,false),⟨h4,.inr h5⟩,by simp,rfl⟩
  ·exact .inr ⟨(ys,true),⟨h4,.inl rfl⟩,by simp only [if_true];omega,rfl⟩
theorem countP_lt {α:Type}{p q:α→Bool}:∀ {l:List α},(∀ x ∈ l,p x=true→q x=true)→(∃ y ∈ l,q y=true∧p y=false)→l.countP p<l.countP q
 | [],_,h=>by obtain ⟨y,hy,_⟩:=h;cases hy
 | x::l,h,hy=>by
  have hle:l.countP p≤l.countP q:=List.countP_mono_left fun z hz=>h z (.tail _ hz)
  obtain ⟨y,hy,h1,h2⟩:=hy;rw [List.countP_cons,List.countP_cons];rcases List.mem_cons.1 hy with rfl|hy
  ·rw [if_pos h1,if_neg (by rw [h2];decide)];omega
  ·have:=countP_lt (fun z hz=>h z (.tail _ hz)) ⟨y,hy,h1,h2⟩;have hx:=h x (.head _)
   by_cases e:p x=true
   ·rw [if_pos e,if_pos (hx e)];omega
   ·rw [if_neg e];omega
noncomputable def rch (es:List Edge)(x:Int)(y:Nat):Bool:=@decide (Reach es x (y:Int)) (Classical.propDecidable _)
theorem rch_iff {es:List Edge}{x:Int}{y:Nat}:rch es x y=true↔Reach es x (y:Int):=by unfold rch;exact @decide_eq_true_iff _ (Classical.propDecidable _)
noncomputable def cnt (n:Nat)(es:List Edge)(x:Int):Nat:=(List.range n).countP (rch es x)
theorem Reach.from {es:List Edge}{e:Edge}(he:e ∈ es){y:Int}(h:Reach es e.To y):Reach es e.From y:=(Reach.step (.refl _) he).trans h
theorem bound_of {n:Nat}{es:List Edge}(hn:n≤64)(hf:Fit n es)(hc:∀ e ∈ es,e.Neg=true→¬ Reach es e.To e.From):∃ P,Stab es P∧Pos n P∧∀ i:Int,0≤i→i<n→P i≤(n:Int)-1:=by
 refine ⟨fun x=>(cnt n es x:Int)-1,fun e he=>?_,fun i h0 h1=>?_,fun i h0 h1=>?_⟩
 ·have h1:cnt n es e.To≤cnt n es e.From:=by
   unfold cnt;refine List.countP_mono_left fun y _ h=>?_
   rw [rch_iff] at h ⊢;exact Reach.from he h
  by_cases hng:e.Neg=true
  ·have h2:cnt n es e.To<cnt n es e.From:=by
    obtain ⟨⟨a,b⟩,_,_⟩:=hf e he;unfold cnt;refine countP_lt (fun y _ h=>?_) ⟨e.From.toNat,List.mem_range.2 (by omega),?_,?_⟩
    ·rw [rch_iff] at h ⊢;exact Reach.from he h
    ·rw [rch_iff,Int.toNat_of_nonneg a];exact .refl _
    ·rw [← Bool.not_eq_true,rch_iff,Int.toNat_of_nonneg a];exact hc e he hng
   have:ng e=1:=if_pos hng;simp only;omega
  ·have:ng e=0:=if_neg hng;simp only;omega
 ·have:0<cnt n es i:=by
   unfold cnt;rw [List.countP_pos_iff];exact ⟨i.toNat,List.mem_range.2 (by omega),by rw [rch_iff,Int.toNat_of_nonneg h0];exact .refl _⟩
  simp only;omega
 ·have:cnt n es i≤n:=by
   unfold cnt;have:=List.countP_le_length (p:=rch es i) (l:=List.range n);simpa using this
  simp only;omega
end
section
open S Go.Sort
set_option maxRecDepth 100000
theorem mul_small:∀ n:Fin 65,math_bits_Mul64 0 1 (n.val:Int)=some (0,(n.val:Int)):=by decide +kernel
theorem rep_step (p q m:Nat)(a b:Int)(hm:m≤p)(hq:m≤q):(List.replicate p a++List.replicate q b).take p++(List.replicate p a++List.replicate q b).take m++(List.replicate p a++List.replicate q b).drop (p+m)=List.replicate (p+m) a++List.replicate (q-m) b:=by
 have h1:(List.replicate p a++List.replicate q b).take p=List.replicate p a:=by simp
 have h2:(List.replicate p a++List.replicate q b).take m=List.replicate m a:=by
  rw [List.take_append_of_le_length (by simpa using hm),List.take_replicate,Nat.min_eq_left hm]
 have h3:(List.replicate p a++List.replicate q b).drop (p+m)=List.replicate (q-m) b:=by
  rw [List.drop_append,List.drop_eq_nil_of_le (by simp),List.nil_append,List.drop_replicate,List.length_replicate]
  congr 1;omega
 rw [h1,h2,h3,List.replicate_append_replicate]
theorem Rep_spec (K:Nat)(hK:1000≤K)(a:Int)(n:Nat)(hn:n≤64):slices_Repeat_int_int K [a] (n:Int)=some (List.replicate n a):=by
 unfold slices_Repeat_int_int math_bits_Mul;have h1:math_bits_Mul64 K (IntKind.wrap .u64 (([a]:List Int).length:Int)) (IntKind.wrap .u64 (n:Int))=some (0,(n:Int)):=by
  rw [wu (a:=(n:Int)) (by omega) (by omega)];exact mul_small ⟨n,by omega⟩
 rw [if_neg (by omega),h1];simp only [Option.bind_some];rw [if_neg (by omega),if_neg (by omega),wr (by omega) (by omega),if_pos (by omega),if_pos (by omega),Int.toNat_natCast];rcases Nat.eq_zero_or_pos n with rfl|hp
 ·obtain ⟨K,rfl⟩:∃ q,K=q+1:=⟨K-1,by omega⟩
  rfl
 have h2:([a]:List Int).take (List.replicate n (0:Int)).length++(List.replicate n (0:Int)).drop ([a]:List Int).length=List.replicate 1 a++List.replicate (n-1) 0:=by
  rw [List.length_replicate,List.drop_replicate];obtain ⟨n,rfl⟩:∃ q,n=q+1:=⟨n-1,by omega⟩
  simp
 have h3:((min ([a]:List Int).length (List.replicate n (0:Int)).length:Nat):Int)=((1:Nat):Int):=by
  rw [List.length_replicate];congr 1;simp only [List.length_cons,List.length_nil];omega
 rw [h2,h3];obtain ⟨⟨r,t⟩,hr,hq⟩:=rounds (L:=slices_Repeat_int_int.l0 K) (fun s=>∃ p:Nat,s.2=p∧1≤p∧p≤n∧s.1=List.replicate p a++List.replicate (n-p) 0) (fun s=>n-s.2.toNat) (fun r=>r.1=List.replicate n a) (fun s m hI=>by
  obtain ⟨xs,p'⟩:=s;obtain ⟨p,rfl,hp1,hp2,rfl⟩:=hI;simp only [slices_Repeat_int_int.l0];have hl:(List.replicate p a++List.replicate (n-p) (0:Int)).length=n:=by simp;omega
  by_cases hlt:(p:Int)<(n:Int)
  ·rw [hl,if_pos hlt,if_pos (by omega),if_pos (by omega),Int.toNat_natCast,rep_step p (n-p) (min p (n-p)) a 0 (Nat.min_le_left _ _) (Nat.min_le_right _ _),wr (by omega) (by omega)];refine .inr ⟨_,⟨p+min p (n-p),by simp,by omega,by omega,?_⟩,by simp only;omega,rfl⟩;simp only
   congr 2;omega
  ·rw [hl,if_neg hlt];have:p=n:=by omega
   subst this;exact .inl ⟨_,rfl,by simp⟩) K (List.replicate 1 a++List.replicate (n-1) 0,((1:Nat):Int)) ⟨1,rfl,Nat.le_refl _,hp,rfl⟩ (by show n-((1:Nat):Int).toNat<K;omega)
 rw [hr];simp only at hq;rw [Option.bind_some,hq]
structure Dist (n:Nat)(es:List Edge)(fin:Int)(f:List Int):Prop where
 len:f.length=n
 e0:rd f fin=0
 lo:∀ x:Int,0≤x→x<n→-1≤rd f x
 hi:∀ x:Int,0≤x→x<n→rd f x≤64
 s2:∀ x:Int,0≤x→x<n→x≠fin→0≤rd f x→∃ e ∈ es,e.From=x∧0≤rd f e.To∧rd f x=rd f e.To+1
 s3:∀ e ∈ es,0≤rd f e.To→0≤rd f e.From∧rd f e.From≤rd f e.To+1
theorem Dist.le {n:Nat}{es:List Edge}{fin:Int}{f g:List Int}(hf:Fit n es)(h1:Dist n es fin f)(h2:Dist n es fin g):∀ (d:Nat) (x:Int),0≤x→x<n→rd f x=d→0≤rd g x∧rd g x≤d
 | d,x,a,b,h=>by
  by_cases e:x=fin
  ·subst e;rw [h2.e0];omega
  ·obtain ⟨y,hy,h3,h4,h5⟩:=h1.s2 x a b e (by omega);obtain ⟨_,c1,c2⟩:=hf y hy
   cases d with
   | zero=>omega
   | succ d =>
    have:=Dist.le hf h1 h2 d y.To c1 c2 (by omega);have:=h2.s3 y hy this.1;rw [h3] at this;omega
theorem Dist.uniq {n:Nat}{es:List Edge}{fin:Int}{f g:List Int}(hf:Fit n es)(h1:Dist n es fin f)(h2:Dist n es fin g):f=g:=by
 refine rdi_ext h1.len h2.len fun x a b=>?_
 have l1:=h1.lo x a b;have l2:=h2.lo x a b
 by_cases c1:0≤rd f x
 ·have d1:=Dist.le hf h1 h2 (rd f x).toNat x a b (by omega);have d2:=Dist.le hf h2 h1 (rd g x).toNat x a b (by omega);omega
 ·by_cases c2:0≤rd g x
  ·have d2:=Dist.le hf h2 h1 (rd g x).toNat x a b (by omega);omega
  ·omega
theorem Dist.of_reach {n:Nat}{es:List Edge}{fin:Int}{f:List Int}(h:Dist n es fin f){x y:Int}(hr:Reach es x y)(hy:0≤rd f y):0≤rd f x:=by
 induction hr with
 | refl=>exact hy
 | step _ he ih=>exact ih (h.s3 _ he hy).1
def uv:List Int→Nat
 | []=>0
 | v::xs=>(if v<0 then 1 else 0)+uv xs
theorem uv_set:∀ (xs:List Int) (i:Nat) (v:Int),i<xs.length→xs.getD i default<0→0≤v→uv (xs.set i v)+1=uv xs
 | [],i,v,h,_,_=>by simp at h
 | x::xs,0,v,_,h1,h2=>by
  have:x<0:=h1;simp only [List.set_cons_zero,uv];rw [if_neg (by omega),if_pos this];omega
 | x::xs,i+1,v,h,h1,h2=>by
  have:=uv_set xs i v (by simpa using h) (by simpa using h1) h2;simp only [List.set_cons_succ,uv];omega
theorem uv_rep (n:Nat):uv (List.replicate n (-1))=n:=by
 induction n with
 | zero=>rfl
 | succ n ih=>rw [List.replicate_succ,uv,ih,if_pos (by decide)];omega
structure BF (n:Nat)(es:List Edge)(fin:Int)(Q out:List Int)(d:Int):Prop where
 fr:0≤fin∧fin<n
 len:out.length=n
 e0:rd out fin=0
 lo:∀ x:Int,0≤x→x<n→-1≤rd out x
 s2:∀ x:Int,0≤x→x<n→x≠fin→0≤rd out x→∃ e ∈ es,e.From=x∧0≤rd out e.To∧rd out x=rd out e.To+1
 qr:∀ q ∈ Q,(0≤q∧q<n)∧0≤rd out q
 so:Q.Pairwise fun a b=>rd out a≤rd out b
 hi:∀ x:Int,0≤x→x<n→rd out x≤d+1
 ub:∀ x:Int,0≤x→x<n→rd out x+uv out≤(n:Int)-1
 s3:∀ e ∈ es,0≤rd out e.To→e.To ∈ Q∨(0≤rd out e.From∧rd out e.From≤rd out e.To+1)
theorem BF.push {n:Nat}{es:List Edge}{fin v:Int}{Q out:List Int}(hf:Fit n es)(h:BF n es fin (v::Q) out (rd out v)){e:Edge}(he:e ∈ es)(hv:e.To=v)(hc:rd out e.From<0) :
  BF n es fin (v::(Q++[e.From])) (out.set e.From.toNat (rd out v+1)) (rd (out.set e.From.toNat (rd out v+1)) v)∧uv (out.set e.From.toNat (rd out v+1))+1=uv out∧rd (out.set e.From.toNat (rd out v+1)) v=rd out v∧∀ x:Int,0≤rd out x→0≤x→rd (out.set e.From.toNat (rd out v+1)) x=rd out x:=by
 obtain ⟨⟨f0,f1⟩,f2,f3⟩:=hf e he;obtain ⟨⟨v0,v1⟩,v2⟩:=h.qr v (.head _);have hl:=h.len;have hu:=uv_set out e.From.toNat (rd out v+1) (by omega) hc (by omega);have hs:∀ x:Int,0≤x→rd (out.set e.From.toNat (rd out v+1)) x=if e.From=x then rd out v+1 else rd out x:=fun x hx=>rdi_set _ f0 (by omega) hx
 have hk:∀ x:Int,0≤rd out x→0≤x→rd (out.set e.From.toNat (rd out v+1)) x=rd out x:=fun x h1 hx=>by rw [hs x hx,if_neg (fun e2=>by subst e2;omega)]
 have hv':=hk v v2 v0;refine ⟨⟨h.fr,by simpa using hl,?_,fun x a b=>?_,fun x a b hx h0=>?_,fun q hq=>?_,?_,fun x a b=>?_,fun x a b=>?_,fun x hx h0=>?_⟩,hu,hv',hk⟩
 ·rw [hs fin h.fr.1];split
  ·rename_i e2;rw [e2,h.e0] at hc;omega
  ·exact h.e0
 ·rw [hs x a];split
  ·omega
  ·exact h.lo x a b
 ·rw [hs x a] at h0 ⊢
  split at h0
  ·rename_i e2
   refine ⟨e,he,e2,?_,?_⟩
   ·rw [hv,hv'];exact v2
   ·rw [if_pos e2,hv,hv']
  ·rename_i e2
   rw [if_neg e2];obtain ⟨y,h1,h2,h3,h4⟩:=h.s2 x a b hx h0;exact ⟨y,h1,h2,by rw [hk _ h3 (hf y h1).2.1];exact h3,by rw [hk _ h3 (hf y h1).2.1];exact h4⟩
 ·rcases List.mem_cons.1 hq with rfl|hq
  ·exact ⟨⟨v0,v1⟩,by rw [hv'];exact v2⟩
  ·rcases List.mem_append.1 hq with hq|hq
   ·obtain ⟨h1,h2⟩:=h.qr q (.tail _ hq);exact ⟨h1,by rw [hk _ h2 h1.1];exact h2⟩
   ·rw [List.mem_singleton] at hq;subst hq;exact ⟨⟨f0,f1⟩,by rw [hs _ f0,if_pos rfl];omega⟩
 ·have h1:(v::(Q++[e.From]))=(v::Q)++[e.From]:=rfl;rw [h1,List.pairwise_append];refine ⟨h.so.imp_of_mem fun {a b} ha hb hab=>?_,by simp,fun a ha b hb=>?_⟩
  ·obtain ⟨a1,a2⟩:=h.qr a ha;obtain ⟨b1,b2⟩:=h.qr b hb;rw [hk _ a2 a1.1,hk _ b2 b1.1];exact hab
  ·rw [List.mem_singleton] at hb;subst hb;obtain ⟨a1,a2⟩:=h.qr a ha;rw [hk _ a2 a1.1,hs _ f0,if_pos rfl];exact h.hi a a1.1 a1.2
 ·rw [hv',hs x a];split
  ·omega
  ·exact h.hi x a b
 ·rw [hs x a];split
  ·have:=h.ub v v0 v1;omega
  ·have:=h.ub x a b;omega
 ·obtain ⟨⟨x0,x1⟩,x2,x3⟩:=hf x hx;rw [hs _ x2] at h0
  split at h0
  ·rename_i e2
   left;rw [← e2];simp
  ·rename_i e2
   rcases h.s3 x hx h0 with h1|⟨h1,h2⟩
   ·left;rcases List.mem_cons.1 h1 with h1|h1
    ·rw [h1];exact .head _
    ·exact .tail _ (List.mem_append_left _ h1)
   ·right;rw [hk _ h1 x0,hk _ h0 x2];exact ⟨h1,h2⟩
theorem steps_l1 (K:Nat)(hK:200000≤K)(n:Nat)(hn:n≤64)(es:List Edge)(fin:Int)(hf:Fit n es)(hl:es.length≤131072)(v:Int)(Q0 out0:List Int)(h0:BF n es fin (v::Q0) out0 (rd out0 v))(hs:Q0.length+1+uv out0≤n+1) :
  ∃ r:List Int×List Int×Int,P7.l1 K es K (v::Q0,out0,0)=some r∧∃ Q,r.1=v::Q∧BF n es fin (v::Q) r.2.1 (rd r.2.1 v)∧Q.length+uv r.2.1=Q0.length+uv out0∧∀ e ∈ es,e.To=v→0≤rd r.2.1 e.From:=by
 refine rounds (L:=P7.l1 K es) (fun s=>∃ t:Nat,s.2.2=t∧t≤es.length∧∃ Q,s.1=v::Q∧BF n es fin (v::Q) s.2.1 (rd s.2.1 v)∧Q.length+uv s.2.1=Q0.length+uv out0∧∀ e ∈ es.take t,e.To=v→0≤rd s.2.1 e.From) (fun s=>es.length-s.2.2.toNat) (fun r=>∃ Q,r.1=v::Q∧BF n es fin (v::Q) r.2.1 (rd r.2.1 v)∧Q.length+uv r.2.1=Q0.length+uv out0∧∀ e ∈ es,e.To=v→0≤rd r.2.1 e.From) (fun s m hI=>?_) K _ ⟨0,rfl,Nat.zero_le _,Q0,rfl,h0,rfl,by intro e he;simp at he⟩ (by show es.length-0<K;omega);obtain ⟨xs,out,t'⟩:=s;obtain ⟨t,rfl,ht,Q,rfl,hb,hc,hd⟩:=hI;simp only at hb hc hd;simp only [P7.l1]
 by_cases hlt:(t:Int)<es.length
 ·have hlt':t<es.length:=by omega
  have hm:=rd_mem (xs:=es) (Int.natCast_nonneg t) hlt;have hg:=rd_get (xs:=es) (Int.natCast_nonneg t) hlt;have hv:rd (v::Q) 0=v:=rfl;rw [if_pos hlt,if_pos (Int.natCast_nonneg t),if_pos (by simp only [List.length_cons];omega),hv];rw [Int.toNat_natCast] at hg;generalize rd es (t:Int)=e at hm hg;obtain ⟨⟨f0,f1⟩,f2,f3⟩:=hf e hm;obtain ⟨⟨v0,v1⟩,v2⟩:=hb.qr v (.head _);have hlen:=hb.len;have hub:=hb.ub v v0 v1;rw [wr (a:=(t:Int)+1) (by omega) (by omega)];have hnext:∀ {out':List Int},(∀ x:Int,0≤rd out x→0≤x→0≤rd out' x)→(e.To=v→0≤rd out' e.From)→∀ x ∈ es.take (t+1),x.To=v→0≤rd out' x.From:=fun hk hn2 x hx hxv=>by
   rw [List.take_add_one,hg,List.mem_append] at hx;rcases hx with hx|hx
   ·exact hk _ (hd x hx hxv) (hf x (List.mem_of_mem_take hx)).1.1
   ·simp only [Option.toList_some,List.mem_singleton] at hx;subst hx;exact hn2 hxv
  by_cases hto:e.To=v
  ·rw [if_pos hto,if_pos f0,if_pos (by rw [hlen];exact f1)]
   by_cases hneg:rd out e.From<0
   ·obtain ⟨g1,g2,g3,g4⟩:=hb.push hf hm hto hneg;rw [if_pos hneg,if_pos v0,if_pos (by rw [hlen];exact v1),if_pos (by simp only [List.length_cons,List.length_nil];omega),wr (by omega) (by omega)];refine .inr ⟨_,⟨t+1,by simp,hlt',Q++[e.From],rfl,g1,by simp only [List.length_append,List.length_cons,List.length_nil];omega,hnext (fun x h1 h2=>by simp only;rw [g4 x h1 h2];exact h1) (fun _=>?_)⟩,by simp only;omega,rfl⟩;simp only;rw [rdi_set _ f0 (by omega) f0,if_pos rfl];omega
   ·rw [if_neg hneg];exact .inr ⟨_,⟨t+1,by simp,hlt',Q,rfl,hb,hc,hnext (fun x h1 _=>h1) (fun _=>by simp only;omega)⟩,by simp only;omega,rfl⟩
  ·rw [if_neg hto];exact .inr ⟨_,⟨t+1,by simp,hlt',Q,rfl,hb,hc,hnext (fun x h1 _=>h1) (fun h=>absurd h hto)⟩,by simp only;omega,rfl⟩
 ·rw [if_neg hlt];have:t=es.length:=by omega
  subst this;exact .inl ⟨_,rfl,Q,rfl,hb,hc,by simpa using hd⟩
theorem steps_spec (K:Nat)(hK:200000≤K)(n:Nat)(hn:n≤64)(es:List Edge)(fin:Int)(hf:Fit n es)(hl:es.length≤131072)(h0:0≤fin)(h1:fin<n):∃ f,P7 K n es fin=some f∧Dist n es fin f:=by
 unfold P7;rw [Rep_spec K (by omega) (-1) n hn,Option.bind_some,if_pos h0,if_pos (by rw [List.length_replicate];exact h1)];have hs:∀ x:Int,0≤x→x<n→rd ((List.replicate n (-1:Int)).set fin.toNat 0) x=if fin=x then 0 else -1:=fun x a b=>by
  rw [rdi_set _ h0 (by rw [List.length_replicate];exact h1) a]
  split
  ·rfl
  ·exact rdi_rep _ a b
 have hu:uv ((List.replicate n (-1:Int)).set fin.toNat 0)+1=n:=by
  rw [uv_set _ _ _ (by rw [List.length_replicate];omega) ?_ (Int.le_refl _),uv_rep];have:rd (List.replicate n (-1:Int)) fin = -1:=rdi_rep _ h0 h1;unfold S.rd at this;rw [this];decide
 have hbf:BF n es fin [fin] ((List.replicate n (-1:Int)).set fin.toNat 0) 0:=⟨⟨h0,h1⟩,by simp,by rw [hs fin h0 h1,if_pos rfl],fun x a b=>by rw [hs x a b];split <;> omega,fun x a b hne h2=>by rw [hs x a b,if_neg (fun e=>hne e.symm)] at h2;omega,fun q hq=>by rw [List.mem_singleton] at hq;subst hq;exact ⟨⟨h0,h1⟩,by rw [hs _ h0 h1,if_pos rfl];omega⟩,by simp,fun x a b=>by rw [hs x a b];split <;> omega,fun x a b=>by rw [hs x a b];split <;> omega,fun e he h2=>by
  obtain ⟨_,c,d⟩:=hf e he;rw [hs _ c d] at h2
  split at h2
  ·rename_i e2;exact .inl (by rw [← e2];exact .head _)
  ·omega⟩
 obtain ⟨⟨r,f⟩,hr,hq⟩:=rounds (L:=P7.l0 K es) (fun s=>(∃ d,BF n es fin s.1 s.2 d∧∀ v Q,s.1=v::Q→d≤rd s.2 v)∧s.1.length+uv s.2≤n+1) (fun s=>s.1.length+uv s.2) (fun r=>Dist n es fin r.2) (fun s m hI=>by
  obtain ⟨Q,out⟩:=s;obtain ⟨⟨d,hb,hd⟩,hm⟩:=hI;simp only at hb hd hm;simp only [P7.l0]
  cases Q with
  | nil =>
   rw [if_neg (by simp)];exact .inl ⟨_,rfl,hb.len,hb.e0,hb.lo,fun x a b=>by have:=hb.ub x a b;simp only;omega,hb.s2,fun e he h2=>(hb.s3 e he h2).resolve_left (by simp)⟩
  | cons v Q =>
   have hdv:=hd v Q rfl;obtain ⟨⟨Qr,o2,t⟩,g1,Q',g2,g3,g4,g5⟩:=steps_l1 K hK n hn es fin hf hl v Q out ⟨hb.fr,hb.len,hb.e0,hb.lo,hb.s2,hb.qr,hb.so,fun x a b=>by have:=hb.hi x a b;omega,hb.ub,hb.s3⟩ (by simp only [List.length_cons] at hm;omega);simp only at g2 g3 g4 g5;subst g2;rw [if_pos (by simp only [List.length_cons];omega),g1,Option.bind_some];simp only;rw [if_pos (by simp only [List.length_cons];omega)];have hdr:(v::Q').drop (1:Int).toNat=Q':=rfl;rw [hdr];simp only [List.length_cons] at hm;have hp:=List.pairwise_cons.1 g3.so;refine .inr ⟨(Q',o2),⟨⟨rd o2 v,⟨g3.fr,g3.len,g3.e0,g3.lo,g3.s2,fun q hq=>g3.qr q (.tail _ hq),hp.2,g3.hi,g3.ub,fun e he h2=>?_⟩,fun w Qw hw=>?_⟩,by simp only;omega⟩,by simp only [List.length_cons];omega,rfl⟩
   ·simp only at h2 ⊢;rcases g3.s3 e he h2 with h3|h3
    ·rcases List.mem_cons.1 h3 with h3|h3
     ·obtain ⟨⟨x0,x1⟩,_⟩:=hf e he;exact .inr ⟨g5 e he h3,by rw [h3];exact g3.hi _ x0 x1⟩
     ·exact .inl h3
    ·exact .inr h3
   ·simp only at hw ⊢;exact hp.1 w (by rw [hw];exact .head _)) K ([fin],(List.replicate n (-1:Int)).set fin.toNat 0) ⟨⟨0,hbf,fun v Q h=>by cases h;exact Int.le_of_eq hbf.e0.symm⟩,by simp only [List.length_cons,List.length_nil];omega⟩ (by show ([fin]:List Int).length+uv _<K;simp only [List.length_cons,List.length_nil];omega)
 rw [hr];exact ⟨f,rfl,hq⟩
end
section
open S Go.Sort
set_option maxRecDepth 100000
def Nr (f:List Int)(at_:Int)(e:Edge):Prop:=e.From=at_∧rd f e.To=rd f at_-1
def MinIn (f:List Int)(at_:Int)(l:List Edge)(y:Int):Prop:=(∃ e ∈ l,Nr f at_ e∧e.To=y)∧∀ e ∈ l,Nr f at_ e→y≤e.To
theorem MinIn.uniq {f:List Int}{a y z:Int}{l:List Edge}(h1:MinIn f a l y)(h2:MinIn f a l z):y=z:=by
 obtain ⟨⟨e,he,hn,rfl⟩,h1'⟩:=h1;obtain ⟨⟨x,hx,hm,rfl⟩,h2'⟩:=h2;exact Int.le_antisymm (h1' x hx hm) (h2' e he hn)
def IsWay (es:List Edge)(fin:Int)(f:List Int):List Int→Int→Prop
 | [],a=>a=fin
 | x::w,a=>x=a∧a≠fin∧∃ y,MinIn f a es y∧IsWay es fin f w y
theorem IsWay.uniq {es:List Edge}{fin:Int}{f:List Int}:∀ {w w':List Int} {a:Int},IsWay es fin f w a→IsWay es fin f w' a→w=w'
 | [],[],a,_,_=>rfl
 | [],x::w,a,h1,h2=>absurd h1 h2.2.1
 | x::w,[],a,h1,h2=>absurd h2 h1.2.1
 | x::w,x'::w',a,⟨h1,_,y,h2,h3⟩,⟨h1',_,y',h2',h3'⟩=>by
  have e:=h2.uniq h2';subst e;rw [h1,h1',IsWay.uniq h3 h3']
theorem min_step {f:List Int}{a y:Int}{es:List Edge}{t:Nat}{e:Edge}(hg:es[t]?=some e)(h:((∀ x ∈ es.take t,¬ Nr f a x)∧True)∨MinIn f a (es.take t) y) :
  (¬ Nr f a e→(((∀ x ∈ es.take (t+1),¬ Nr f a x)∧(∀ x ∈ es.take t,¬ Nr f a x))∨MinIn f a (es.take (t+1)) y))∧(Nr f a e→(∀ x ∈ es.take t,¬ Nr f a x)→MinIn f a (es.take (t+1)) e.To)∧(Nr f a e→MinIn f a (es.take t) y→MinIn f a (es.take (t+1)) (if e.To<y then e.To else y)):=by
 have hm:∀ x,x ∈ es.take (t+1)↔x ∈ es.take t∨x=e:=fun x=>by rw [List.take_add_one,hg];simp
 refine ⟨fun hn=>?_,fun hn h0=>⟨⟨e,(hm e).2 (.inr rfl),hn,rfl⟩,fun x hx hnx=>?_⟩,fun hn h0=>?_⟩
 ·rcases h with ⟨h,_⟩|⟨⟨x,hx,h1,h2⟩,h3⟩
  ·refine .inl ⟨fun x hx=>?_,h⟩;rcases (hm x).1 hx with hx|rfl
   ·exact h x hx
   ·exact hn
  ·refine .inr ⟨⟨x,(hm x).2 (.inl hx),h1,h2⟩,fun z hz hnz=>?_⟩;rcases (hm z).1 hz with hz|rfl
   ·exact h3 z hz hnz
   ·exact absurd hnz hn
 ·rcases (hm x).1 hx with hx|rfl
  ·exact absurd hnx (h0 x hx)
  ·exact Int.le_refl _
 ·obtain ⟨⟨x,hx,h1,h2⟩,h3⟩:=h0;refine ⟨?_,fun z hz hnz=>?_⟩
  ·split
   ·exact ⟨e,(hm e).2 (.inr rfl),hn,rfl⟩
   ·exact ⟨x,(hm x).2 (.inl hx),h1,h2⟩
  ·rcases (hm z).1 hz with hz|rfl
   ·have:=h3 z hz hnz;split <;> omega
   ·split <;> omega
theorem way_l1 (K:Nat)(hK:200000≤K)(n:Nat)(hn:n≤64)(es:List Edge)(fin:Int)(hf:Fit n es)(hl:es.length≤131072)(f:List Int)(hd:Dist n es fin f)(a:Int)(ha0:0≤a)(ha1:a<n)(hne:a≠fin)(hr:0≤rd f a) :
  ∃ y q,z8.l1 K es f a K ((n:Int),0)=some (y,q)∧MinIn f a es y:=by
 obtain ⟨e0,he0,hf0,h1,h2⟩:=hd.s2 a ha0 ha1 hne hr;have hnr:Nr f a e0:=⟨hf0,by omega⟩
 obtain ⟨⟨y,q⟩,hr,hq⟩:=rounds (L:=z8.l1 K es f a) (fun s=>∃ t:Nat,s.2=t∧t≤es.length∧((s.1=n∧∀ x ∈ es.take t,¬ Nr f a x)∨MinIn f a (es.take t) s.1)) (fun s=>es.length-s.2.toNat) (fun r=>MinIn f a es r.1) (fun s m hI=>by
  obtain ⟨y,t'⟩:=s;obtain ⟨t,rfl,ht,hv⟩:=hI;simp only at hv;simp only [z8.l1]
  by_cases hlt:(t:Int)<es.length
  ·have hlt':t<es.length:=by omega
   have hm:=rd_mem (xs:=es) (Int.natCast_nonneg t) hlt;have hg:=rd_get (xs:=es) (Int.natCast_nonneg t) hlt;rw [if_pos hlt,if_pos (Int.natCast_nonneg t)];rw [Int.toNat_natCast] at hg;generalize rd es (t:Int)=e at hm hg;obtain ⟨⟨f0,f1⟩,f2,f3⟩:=hf e hm;have hlen:=hd.len;have hl1:=hd.lo e.To f2 f3;have hl2:=hd.hi a ha0 ha1;have ms:=min_step (f:=f) (a:=a) (y:=y) hg (hv.imp (fun h=>⟨h.2,trivial⟩) id);rw [wr (a:=(t:Int)+1) (by omega) (by omega)];have skip:¬ Nr f a e→((y=n∧∀ x ∈ es.take (t+1),¬ Nr f a x)∨MinIn f a (es.take (t+1)) y):=fun h=>by
    rcases hv with hv|hv
    ·rcases ms.1 h with h2|h2
     ·exact .inl ⟨hv.1,h2.1⟩
     ·exact .inr h2
    ·rcases ms.1 h with h2|h2
     ·obtain ⟨⟨x,hx,hn,_⟩,_⟩:=hv;exact absurd hn (h2.2 x hx)
     ·exact .inr h2
   by_cases c1:e.From=a
   ·rw [if_pos c1,if_pos f2,if_pos (by rw [hlen];exact f3)]
    by_cases c2:0≤rd f e.To
    ·have h3:=hd.s3 e hm c2;rw [c1] at h3;rw [if_pos c2,if_pos ha0,if_pos (by rw [hlen];exact ha1)]
     by_cases c3:rd f e.To<rd f a
     ·have hne:Nr f a e:=⟨c1,by omega⟩
      rw [if_pos c3];refine .inr ⟨_,⟨t+1,by simp,hlt',?_⟩,by simp only;omega,rfl⟩;simp only;rcases hv with ⟨rfl,hv⟩|hv
      ·rw [if_pos f3];exact .inr (ms.2.1 hne hv)
      ·exact .inr (ms.2.2 hne hv)
     ·rw [if_neg c3];exact .inr ⟨_,⟨t+1,by simp,hlt',skip (fun h=>by have:=h.2;omega)⟩,by simp only;omega,rfl⟩
    ·rw [if_neg c2];exact .inr ⟨_,⟨t+1,by simp,hlt',skip (fun h=>by have:=h.2;omega)⟩,by simp only;omega,rfl⟩
   ·rw [if_neg c1];exact .inr ⟨_,⟨t+1,by simp,hlt',skip (fun h=>c1 h.1)⟩,by simp only;omega,rfl⟩
  ·rw [if_neg hlt];have:t=es.length:=by omega
   subst this;rw [List.take_length] at hv;refine .inl ⟨_,rfl,hv.resolve_left fun h=>h.2 e0 he0 hnr⟩) K ((n:Int),0) ⟨0,rfl,Nat.zero_le _,.inl ⟨rfl,by intro e he;simp at he⟩⟩ (by show es.length-0<K;omega)
 exact ⟨y,q,hr,hq⟩
theorem way_l0 (K:Nat)(hK:200000≤K)(n:Nat)(hn:n≤64)(es:List Edge)(fin:Int)(hf:Fit n es)(hl:es.length≤131072)(f:List Int)(hd:Dist n es fin f):∀ (d:Nat) (a:Int) (acc:List Int) (m:Nat),0≤a→a<n→rd f a=d→d<m→acc.length+d≤1000 →
  ∃ w,z8.l0 K n es fin f m (acc,a)=some (acc++w,fin)∧IsWay es fin f w a∧w.length=d
 | d,a,acc,m,h0,h1,hda,hm,hac=>by
  obtain ⟨m,rfl⟩:=sSx hm;simp only [z8.l0]
  by_cases hne:a=fin
  ·subst hne;rw [if_neg (fun h=>h rfl)];have:=hd.e0;exact ⟨[],by rw [List.append_nil],rfl,by simp only [List.length_nil];omega⟩
  ·obtain ⟨y,q,hy,hmin⟩:=way_l1 K hK n hn es fin hf hl f hd a h0 h1 hne (by omega);rw [if_pos hne,if_pos (by simp only [List.length_cons,List.length_nil];omega),hy,Option.bind_some];obtain ⟨⟨e,he,hn2,rfl⟩,_⟩:=id hmin;obtain ⟨_,c,c'⟩:=hf e he;obtain ⟨e1,he1,_,g1,g2⟩:=hd.s2 a h0 h1 hne (by omega);have hn3:=hn2.2
   cases d with
   | zero=>omega
   | succ d =>
    obtain ⟨w,hw,hw2,hw3⟩:=way_l0 K hK n hn es fin hf hl f hd d e.To (acc++[a]) m c c' (by omega) (by omega) (by simp only [List.length_append,List.length_cons,List.length_nil];omega);exact ⟨a::w,by rw [hw,List.append_assoc];rfl,⟨rfl,hne,e.To,hmin,hw2⟩,by rw [List.length_cons,hw3]⟩
theorem way_spec (K:Nat)(hK:200000≤K)(n:Nat)(hn:n≤64)(es:List Edge)(hf:Fit n es)(hl:es.length≤131072)(a fin:Int)(ha0:0≤a)(ha1:a<n)(h0:0≤fin)(h1:fin<n)(hr:Reach es a fin) :
  ∃ w f,z8 K n es a fin=some w∧Dist n es fin f∧IsWay es fin f w a∧w.length≤64:=by
 obtain ⟨f,hs,hd⟩:=steps_spec K hK n hn es fin hf hl h0 h1;have hp:0≤rd f a:=hd.of_reach hr (by rw [hd.e0];omega);have h64:=hd.hi a ha0 ha1;obtain ⟨w,hw,hw2,hw3⟩:=way_l0 K hK n hn es fin hf hl f hd (rd f a).toNat a [] K ha0 ha1 (by omega) (by omega) (by simp only [List.length_nil];omega);refine ⟨w,f,?_,hd,hw2,by omega⟩;unfold z8;rw [hs,Option.bind_some,hw];rfl
def Cyc (es:List Edge)(e:Edge):Prop:=e.Neg=true∧Reach es e.To e.From
def CycSpec (n:Nat)(es:List Edge)(c:List Int):Prop:=∃ i:Nat,i<es.length∧Cyc es (rd es (i:Int))∧(∀ j:Nat,j<i→¬ Cyc es (rd es (j:Int)))∧∃ f w,Dist n es (rd es (i:Int)).From f∧IsWay es (rd es (i:Int)).From f w (rd es (i:Int)).To∧c=(rd es (i:Int)).From::w
theorem CycSpec.uniq {n:Nat}{es:List Edge}(hf:Fit n es){c c':List Int}(h:CycSpec n es c)(h':CycSpec n es c'):c=c':=by
 obtain ⟨i,hi,h1,h2,f,w,h3,h4,rfl⟩:=h;obtain ⟨j,hj,g1,g2,f',w',g3,g4,rfl⟩:=h';have:i=j:=by
  rcases Nat.lt_trichotomy i j with h|h|h
  ·exact absurd h1 (g2 i h)
  ·exact h
  ·exact absurd g1 (h2 j h)
 subst this;have:=h3.uniq hf g3;subst this;rw [h4.uniq g4]
theorem cycle_spec (K:Nat)(hK:200000≤K)(n:Nat)(hn:n≤64)(es:List Edge)(hf:Fit n es)(hl:es.length≤131072) :
  ∃ c,pa K n es=some c∧((c=[]∧∀ e ∈ es,¬ Cyc es e)∨CycSpec n es c):=by
 obtain ⟨r,hr,hq⟩:=rounds (L:=pa.l0 K n es) (fun s=>∃ t:Nat,s=t∧t≤es.length∧∀ j:Nat,j<t→¬ Cyc es (rd es (j:Int))) (fun s=>es.length-s.toNat)
  (fun r=>match r with | .inl _=>∀ e ∈ es,¬ Cyc es e | .inr c=>CycSpec n es c) (fun s m hI=>by
   obtain ⟨t,rfl,ht,hv⟩:=hI;simp only [pa.l0]
   by_cases hlt:(t:Int)<es.length
   ·have hlt':t<es.length:=by omega
    have hm:=rd_mem (xs:=es) (Int.natCast_nonneg t) hlt;obtain ⟨⟨f0,f1⟩,f2,f3⟩:=hf _ hm;rw [if_pos hlt,if_pos (Int.natCast_nonneg t),wr (a:=(t:Int)+1) (by omega) (by omega)];have next:¬ Cyc es (rd es (t:Int))→∀ j:Nat,j<t+1→¬ Cyc es (rd es (j:Int)):=fun h j hj=>by
     rcases Nat.lt_succ_iff_lt_or_eq.1 hj with hj|rfl
     ·exact hv j hj
     ·exact h
    by_cases hng:(rd es (t:Int)).Neg=true
    ·obtain ⟨b,hb,hb2⟩:=Reaches_spec n es (rd es (t:Int)).To (rd es (t:Int)).From (by omega) K (by omega) (by omega);rw [if_pos hng,hb,Option.bind_some]
     by_cases hbt:b=true
     ·have hrc:=(hb2.1 hbt).2.2.2;obtain ⟨w,f,hw,hd,hw2,hw3⟩:=way_spec K hK n hn es hf hl _ _ f2 f3 f0 f1 hrc;rw [if_pos hbt,hw,Option.bind_some,if_pos (by simp only [List.length_cons,List.length_nil];omega)];exact .inl ⟨_,rfl,t,hlt',⟨hng,hrc⟩,hv,f,w,hd,hw2,rfl⟩
     ·rw [if_neg hbt];exact .inr ⟨_,⟨t+1,by simp,hlt',next fun h=>hbt (hb2.2 ⟨⟨by omega,by omega,hf⟩,⟨f2,f3⟩,⟨f0,f1⟩,h.2⟩)⟩,by omega,rfl⟩
    ·rw [if_neg hng];exact .inr ⟨_,⟨t+1,by simp,hlt',next fun h=>hng h.1⟩,by omega,rfl⟩
   ·rw [if_neg hlt];refine .inl ⟨_,rfl,fun e he=>?_⟩;obtain ⟨j,hj,rfl⟩:=List.getElem_of_mem he;have:=hv j (by omega)
    rwa [rd_nat,List.getD_eq_getElem?_getD,List.getElem?_eq_getElem hj] at this) K 0 ⟨0,rfl,Nat.zero_le _,fun j hj=>by omega⟩ (by show es.length-0<K;omega)
 unfold pa;rw [hr]
 cases r with
 | inl s=>exact ⟨[],rfl,.inl ⟨rfl,hq⟩⟩
 | inr c=>exact ⟨c,rfl,.inr hq⟩
theorem CycSpec.ne {n:Nat}{es:List Edge}{c:List Int}(h:CycSpec n es c):c≠[]:=by
 obtain ⟨i,hi,h1,h2,f,w,h3,h4,rfl⟩:=h;simp
def StrOut (g:Grammar)(r:List Int×List Int×Int):Prop :=
 (¬ mayP g∧r=([],[],800))∨(mayP g∧((∃ c,CycSpec g.Names.length (edgesOf g) c∧r=([],c,801))∨((∀ e ∈ edgesOf g,¬ Cyc (edgesOf g) e)∧∃ xs,Lev g.Names.length (edgesOf g) xs∧r=(xs,[],0))))
theorem fit_edges {g:Grammar}(h:mayP g):Fit g.Names.length (edgesOf g):=fun e he=>by
 have:=occ_bounds h ((mem_edges g e).1 he);exact ⟨⟨this.1,this.2.1⟩,this.2.2.1,this.2.2.2⟩
theorem StrOut.uniq {g:Grammar}{r r':List Int×List Int×Int}(h:StrOut g r)(h':StrOut g r'):r=r':=by
 rcases h with ⟨hm,h⟩|⟨hm,h⟩
 ·rcases h' with ⟨_,h'⟩|⟨hm',_⟩
  ·rw [h,h']
  ·exact absurd hm' hm
 ·rcases h' with ⟨hm',_⟩|⟨_,h'⟩
  ·exact absurd hm hm'
  ·rcases h with ⟨c,hc,rfl⟩|⟨hn,xs,hx,rfl⟩
   ·rcases h' with ⟨c',hc',rfl⟩|⟨hn',_⟩
    ·rw [hc.uniq (fit_edges hm) hc']
    ·obtain ⟨i,hi,h1,_⟩:=hc;exact absurd h1 (hn' _ (rd_mem (Int.natCast_nonneg i) (by omega)))
   ·rcases h' with ⟨c',hc',rfl⟩|⟨_,ys,hy,rfl⟩
    ·obtain ⟨i,hi,h1,_⟩:=hc';exact absurd h1 (hn _ (rd_mem (Int.natCast_nonneg i) (by omega)))
    ·rw [hx.uniq hy]
theorem pot_of {g:Grammar}(h:mayP g)(hc:∀ e ∈ edgesOf g,¬ Cyc (edgesOf g) e):∃ P,Stab (edgesOf g) P∧Pos g.Names.length P∧∀ i:Int,0≤i→i<g.Names.length→P i≤(g.Names.length:Int)-1 :=
 bound_of h.1.2.1 (fit_edges h) fun e he hn hr=>hc e he ⟨hn,hr⟩
end
section
open S Go.Sort
set_option maxRecDepth 100000
structure FR (n:Nat)(es:List Edge)(fin:Int)(out:List Int)(c h:Int):Prop where
 fr:0≤fin∧fin<n
 len:out.length=n
 e0:rd out fin=0
 lo:∀ x:Int,0≤x→x<n→-1≤rd out x
 s2:∀ x:Int,0≤x→x<n→x≠fin→0≤rd out x→∃ e ∈ es,e.From=x∧0≤rd out e.To∧rd out x=rd out e.To+1
 hi:∀ x:Int,0≤x→x<n→rd out x≤h
 ub:∀ x:Int,0≤x→x<n→rd out x+uv out≤(n:Int)-1
 s3:∀ e ∈ es,0≤rd out e.To→rd out e.To<c→0≤rd out e.From∧rd out e.From≤rd out e.To+1
theorem FR.push {n:Nat}{es:List Edge}{fin c:Int}{out:List Int}(hf:Fit n es)(h0:0≤c)(h:FR n es fin out c (c+1)){e:Edge}(he:e ∈ es)(hv:rd out e.To=c)(hc:rd out e.From<0) :
  FR n es fin (out.set e.From.toNat (c+1)) c (c+1)∧(∀ x:Int,0≤x→rd (out.set e.From.toNat (c+1)) x=if e.From=x then c+1 else rd out x):=by
 obtain ⟨⟨f0,f1⟩,f2,f3⟩:=hf e he;have hl:=h.len;have hu:=uv_set out e.From.toNat (c+1) (by omega) hc (by omega);have hs:∀ x:Int,0≤x→rd (out.set e.From.toNat (c+1)) x=if e.From=x then c+1 else rd out x:=fun x hx=>rdi_set _ f0 (by omega) hx
 have hk:∀ x:Int,0≤rd out x→0≤x→rd (out.set e.From.toNat (c+1)) x=rd out x:=fun x h1 hx=>by rw [hs x hx,if_neg (fun e2=>by subst e2;omega)]
 refine ⟨⟨h.fr,by simpa using hl,?_,fun x a b=>?_,fun x a b hx h0=>?_,fun x a b=>?_,fun x a b=>?_,fun x hx h1 h2=>?_⟩,hs⟩
 ·rw [hk fin (by rw [h.e0];omega) h.fr.1];exact h.e0
 ·rw [hs x a];split
  ·omega
  ·exact h.lo x a b
 ·rw [hs x a] at h0 ⊢
  split at h0
  ·rename_i e2
   refine ⟨e,he,e2,?_,?_⟩
   ·rw [hk _ (by omega) f2];omega
   ·rw [if_pos e2,hk _ (by omega) f2,hv]
  ·rename_i e2
   rw [if_neg e2];obtain ⟨y,h1,h2,h3,h4⟩:=h.s2 x a b hx h0;exact ⟨y,h1,h2,by rw [hk _ h3 (hf y h1).2.1];exact h3,by rw [hk _ h3 (hf y h1).2.1];exact h4⟩
 ·rw [hs x a];split
  ·omega
  ·exact h.hi x a b
 ·rw [hs x a];split
  ·have:=h.ub e.To f2 f3;omega
  ·have:=h.ub x a b;omega
 ·obtain ⟨⟨x0,x1⟩,x2,x3⟩:=hf x hx;rw [hs _ x2] at h1 h2
  split at h1
  ·rename_i e2
   rw [if_pos e2] at h2;omega
  ·rename_i e2
   rw [if_neg e2] at h2;obtain ⟨g1,g2⟩:=h.s3 x hx h1 h2;rw [hk _ g1 x0,hk _ h1 x2];exact ⟨g1,g2⟩
def nf (n:Nat)(T xs:List Int):Nat:=(List.range n).countP fun i:Nat=>decide (rd xs (i:Int)≠rd T (i:Int))
theorem nf_zero {n:Nat}{T xs:List Int}(h1:T.length=n)(h2:xs.length=n)(h:nf n T xs=0):xs=T:=by
 refine rdi_ext h2 h1 fun i a b=>?_
 unfold nf at h;rw [List.countP_eq_zero] at h;have:=h i.toNat (List.mem_range.2 (by omega));rw [decide_eq_true_eq,Int.toNat_of_nonneg a] at this;exact Decidable.not_not.1 this
theorem nf_step {n:Nat}{es:List Edge}(hf:Fit n es){T xs ys:List Int}(hT:Lev n es T)(hx:Low n es xs)(hy:Low n es ys)(h1:∀ i:Int,0≤i→i<n→rd xs i≤rd ys i)(h2:∀ e ∈ es,rd xs e.To+ng e≤rd ys e.From)(hp:0<nf n T xs):nf n T ys<nf n T xs:=by
 have hxT:=fun i a b=>hx.2.2 _ hT.2 hT.1.2.1 i a b
 have hyT:=fun i a b=>hy.2.2 _ hT.2 hT.1.2.1 i a b
 have key:∃ e ∈ es,rd xs e.From≠rd T e.From∧rd xs e.To=rd T e.To∧rd T e.From=rd T e.To+ng e:=by
  refine Classical.byContradiction fun hc=>?_
  have hP:=hT.1.2.2 (fun x=>if rd xs x≠rd T x then rd T x-1 else rd T x) (fun e he=>?_) (fun i a b=>?_)
  ·unfold nf at hp;rw [List.countP_pos_iff] at hp;obtain ⟨i,hi,hd⟩:=hp;rw [List.mem_range] at hi;rw [decide_eq_true_eq] at hd;have:=hP (i:Int) (by omega) (by omega);rw [if_pos hd] at this;omega
  ·have:=hT.2 e he;have hng:=ng_le e;simp only
   by_cases c1:rd xs e.From≠rd T e.From
   ·by_cases c2:rd xs e.To≠rd T e.To
    ·rw [if_pos c1,if_pos c2];omega
    ·rw [if_pos c1,if_neg c2]
     by_cases c3:rd T e.From=rd T e.To+ng e
     ·exact absurd ⟨e,he,c1,Decidable.not_not.1 c2,c3⟩ hc
     ·omega
   ·rw [if_neg c1]
    split <;> omega
  ·have h3:=hx.2.1 i a b;have h4:=hxT i a b;have h5:=hT.1.2.1 i a b;simp only
   split <;> omega
 obtain ⟨e,he,k1,k2,k3⟩:=key;obtain ⟨⟨f0,f1⟩,f2,f3⟩:=hf e he;unfold nf;refine countP_lt (fun i hi h=>?_) ⟨e.From.toNat,List.mem_range.2 (by omega),?_,?_⟩
 ·rw [List.mem_range] at hi;rw [decide_eq_true_eq] at h ⊢;have a1:=h1 (i:Int) (by omega) (by omega);have a2:=hyT (i:Int) (by omega) (by omega);omega
 ·rw [decide_eq_true_eq,Int.toNat_of_nonneg f0];exact k1
 ·rw [decide_eq_false_iff_not,Int.toNat_of_nonneg f0,Decidable.not_not];have a1:=h2 e he;have a2:=hyT e.From f0 f1;omega
theorem nf_le {n:Nat}{T xs:List Int}:nf n T xs≤n:=by
 unfold nf;have:=List.countP_le_length (p:=fun i:Nat=>decide (rd xs (i:Int)≠rd T (i:Int))) (l:=List.range n);simpa using this
end
section
open S Go.Sort
set_option maxRecDepth 100000
theorem Edges_p (K:Nat)(hK:200000≤K)(g:Grammar):∃ b,(b=true↔mayP g)∧y8 K g=some b∧L6 K g=some (if b=true then (edgesOf g,0) else ([],600)):=by
 obtain ⟨b,hb,hbm⟩:=gMay_spec K (by omega) g;obtain ⟨b',hb',_,he⟩:=Edges_spec K hK g;rw [hb] at hb';cases hb';exact ⟨b,hbm,hb,he⟩
theorem Strata_spec (K:Nat)(hK:200000≤K)(g:Grammar):∃ r,g7 K g=some r∧StrOut g r:=by
 obtain ⟨b,hb,_,h1⟩:=Edges_p K hK g;unfold g7;rw [h1,Option.bind_some]
 cases b with
 | false=>exact ⟨_,rfl,.inl ⟨fun h=>Bool.noConfusion (hb.2 h),rfl⟩⟩
 | true =>
  have hm:=hb.1 rfl;have hf:=fit_edges hm;have hl:=edges_len g (may_bd hm);have hn:=hm.1.2.1;simp only [if_true];rw [if_neg (fun h=>h rfl)];obtain ⟨c,hc,hcs⟩:=cycle_spec K hK _ hn (edgesOf g) hf hl;rw [hc,Option.bind_some];rcases hcs with ⟨rfl,hno⟩|hcs
  ·obtain ⟨P,p1,p2,p3⟩:=pot_of hm hno;obtain ⟨⟨xs,q⟩,h2,h3⟩:=str_l0 K hK _ hn (edgesOf g) 0 hf hl ⟨P,p1,p2,fun i a b=>by have:=p3 i a b;omega⟩;rw [if_neg (fun h=>h rfl),if_pos (by omega),Int.toNat_natCast,h2];exact ⟨_,rfl,.inr ⟨hm,.inr ⟨hno,xs,h3,rfl⟩⟩⟩
  ·rw [if_pos hcs.ne];exact ⟨_,rfl,.inr ⟨hm,.inl ⟨c,hcs,rfl⟩⟩⟩
end
theorem lvS_ok {g:Grammar}{xs:List Int}(hm:mayP g)(hx:Lev g.Names.length (edgesOf g) xs):LvS g.Names.length g.Rules (rd xs):=fun r hr=>by
 have h1:=may_heads hm r hr;refine ⟨⟨h1.1,h1.2.1⟩,fun c hc s hs h0=>?_⟩;have ho:Occ g (eOf r c s):=⟨r,hr,c,hc,s,hs,h0,rfl⟩
 have h2:=occ_bounds hm ho;have h3:=hx.2 _ ((mem_edges g _).2 ho);exact ⟨h2.2.2.2,h3⟩
theorem StrOut.fine {g:Grammar}{r:List Int×List Int×Int}(h:StrOut g r)(h0:r.2.2=0):mayP g∧(∀ e ∈ edgesOf g,¬ Cyc (edgesOf g) e)∧∃ xs,Lev g.Names.length (edgesOf g) xs∧r=(xs,[],0):=by
 rcases h with ⟨_,rfl⟩|⟨hm,⟨c,hc,rfl⟩|⟨hno,xs,hx,rfl⟩⟩
 ·exact absurd h0 (show (800:Int)≠0 by decide)
 ·exact absurd h0 (show (801:Int)≠0 by decide)
 ·exact ⟨hm,hno,xs,hx,rfl⟩
structure LvF (g:Grammar)(xs:List Int):Prop where
 may:mayP g
 xl:xs.length=g.Names.length
 lv:LvS g.Names.length g.Rules (rd xs)
 l0:∀ y:Int,0≤y→y<g.Names.length→0≤rd xs y
 l1:∀ y:Int,0≤y→y<g.Names.length→rd xs y≤(g.Names.length:Int)-1
theorem StrOut.lvf {g:Grammar}{xs:List Int}(h:StrOut g (xs,[],0)):LvF g xs:=by
 obtain ⟨hm,hno,ys,hx,e⟩:=h.fine rfl;cases e;obtain ⟨P,p1,p2,p3⟩:=pot_of hm hno;exact ⟨hm,hx.1.1,lvS_ok hm hx,hx.1.2.1,fun y a b=>by
  have:=hx.1.2.2 P p1 p2 y a b;have:=p3 y a b;omega⟩
theorem mcopy_l1 (K:Nat)(hK:1000≤K)(g:Grammar)(hg:Bd g)(i:Nat)(hi:i<g.Rules.length):∀ (k j m:Nat),j+k=(rd g.Rules (i:Int)).Conj.length→k<m→G9.l1 K g i m ((rd g.Rules (i:Int)).Conj.take j,(j:Int))=some ((rd g.Rules (i:Int)).Conj,((rd g.Rules (i:Int)).Conj.length:Int))
 | 0,j,m,hj,hm=>by
  obtain ⟨m,rfl⟩:=sSx hm;simp only [G9.l1];rw [if_neg (by omega),List.take_of_length_le (by omega)];have:j=(rd g.Rules (i:Int)).Conj.length:=by omega
  rw [this]
 | k+1,j,m,hj,hm=>by
  obtain ⟨m,rfl⟩:=sSx hm;have ih:=mcopy_l1 K hK g hg i hi k (j+1) m (by omega) (by omega);have hr:=hg.2 _ (rd_mem' hi);have h8:=hr.1;have hc:=hr.2 _ (rd_mem (xs:=(rd g.Rules (i:Int)).Conj) (i:=(j:Int)) (by omega) (by omega));simp only [G9.l1];rw [if_pos (by omega),if_pos (by omega),if_pos (by omega),if_pos (by rw [List.length_take];(try simp only [List.length_cons,List.length_nil]);omega),wr (a:=(j:Int)+1) (by omega) (by omega)];have e:(⟨(rd (rd g.Rules (i:Int)).Conj (j:Int)).Neg,(rd (rd g.Rules (i:Int)).Conj (j:Int)).Seq⟩:Conjunct)=rd (rd g.Rules (i:Int)).Conj (j:Int):=rfl;rw [e,← take_succ_rd (by omega)];simpa using ih
theorem mcopy_l0 (K:Nat)(hK:1000≤K)(g:Grammar)(hg:Bd g):∀ (k i m:Nat),i+k=g.Rules.length→k<m→G9.l0 K g m (g.Rules.take i,(i:Int))=some (g.Rules,(g.Rules.length:Int))
 | 0,i,m,hi,hm=>by
  obtain ⟨m,rfl⟩:=sSx hm;simp only [G9.l0];rw [if_neg (by omega),List.take_of_length_le (by omega)];have:i=g.Rules.length:=by omega
  rw [this]
 | k+1,i,m,hi,hm=>by
  obtain ⟨m,rfl⟩:=sSx hm;have ih:=mcopy_l0 K hK g hg k (i+1) m (by omega) (by omega);have h2:=hg.1;have h8:=(hg.2 _ (rd_mem' (show i<g.Rules.length by omega))).1;have h1:=mcopy_l1 K hK g hg i (by omega) (rd g.Rules (i:Int)).Conj.length 0 K (by omega) (by omega);rw [show ((0:Nat):Int)=0 from rfl,List.take_zero] at h1;simp only [G9.l0];rw [if_pos (by omega),if_pos (by omega),h1,Option.bind_some];simp only;rw [if_pos (by rw [List.length_take];(try simp only [List.length_cons,List.length_nil]);omega),wr (a:=(i:Int)+1) (by omega) (by omega)];have e:(⟨(rd g.Rules (i:Int)).Head,(rd g.Rules (i:Int)).Conj⟩:Rule)=rd g.Rules (i:Int):=rfl;rw [e,← take_succ_rd (by omega)];simpa using ih
theorem mCopy_spec (K:Nat)(hK:1000≤K)(g:Grammar)(hm:mayP g):G9 K g=some g:=by
 have hg:=may_bd hm;have h64:=hm.1.2.1;have h1:=mcopy_l0 K hK g hg g.Rules.length 0 K (by omega) (by have:=hg.1;omega);rw [show ((0:Nat):Int)=0 from rfl,List.take_zero] at h1;unfold G9;rw [if_pos (by omega),Option.bind_some,h1,Option.bind_some]
set_option maxRecDepth 10000
theorem AtOk.skip {g:Grammar}{T:List P3}{at_:List (List Int)}(h:AtOk g T at_){t:P3}(hn:∀ x:Nat,¬ nmAt g t x):AtOk g (T++[t]) at_:=by
 refine ⟨h.len,fun x hx v=>?_,by rw [List.length_append];have:=h.sum;omega⟩;rw [h.mem x hx v];constructor
 ·rintro ⟨p,p1,p2,p3⟩;exact ⟨p,by rw [List.length_append];omega,p2,by rw [rd_app_lt p1];exact p3⟩
 ·rintro ⟨p,p1,p2,p3⟩;rw [List.length_append,List.length_singleton] at p1
  by_cases c:p<T.length
  ·rw [rd_app_lt c] at p3;exact ⟨p,c,p2,p3⟩
  ·have:p=T.length:=by omega
   subst this;rw [rd_app_at] at p3;exact (hn x p3).elim
theorem AtOk.put {g:Grammar}{T:List P3}{at_:List (List Int)}(h:AtOk g T at_){t:P3}{x:Nat}(hx:x<g.Names.length)(hn:nmAt g t x):AtOk g (T++[t]) (at_.set x (rd at_ (x:Int)++[(T.length:Int)])):=by
 have hl:x<at_.length:=by rw [h.len];exact hx
 refine ⟨by rw [List.length_set];exact h.len,fun y hy v=>?_,?_⟩
 ·have hmem:v ∈ rd (at_.set x (rd at_ (x:Int)++[(T.length:Int)])) (y:Int)↔v ∈ rd at_ (y:Int)∨(x=y∧v=(T.length:Int)):=by
   rw [rd_set _ hl]
   by_cases e:x=y
   ·subst e;rw [if_pos rfl,List.mem_append,List.mem_singleton];simp
   ·rw [if_neg e];simp [e]
  rw [hmem,h.mem y hy v];constructor
  ·rintro (⟨p,p1,p2,p3⟩|⟨rfl,e⟩)
   ·exact ⟨p,by rw [List.length_append];omega,p2,by rw [rd_app_lt p1];exact p3⟩
   ·exact ⟨T.length,by rw [List.length_append,List.length_singleton];omega,e,by rw [rd_app_at];exact hn⟩
  ·rintro ⟨p,p1,p2,p3⟩;rw [List.length_append,List.length_singleton] at p1
   by_cases c:p<T.length
   ·rw [rd_app_lt c] at p3;exact .inl ⟨p,c,p2,p3⟩
   ·have:p=T.length:=by omega
    subst this;rw [rd_app_at] at p3;refine .inr ⟨?_,p2⟩;have h1:=hn.2;have h2:=p3.2;omega
 ·have e:=wsum_upd (f:=fun y=>(rd at_ (y:Int)).length) (h:=fun y=>(rd (at_.set x (rd at_ (x:Int)++[(T.length:Int)])) (y:Int)).length) (a:=x) (n:=g.Names.length) (fun k _ hne=>by
   rw [rd_set _ hl,if_neg (fun z=>hne z.symm)]) hx
  have h1:(rd (at_.set x (rd at_ (x:Int)++[(T.length:Int)])) (x:Int)).length=(rd at_ (x:Int)).length+1:=by rw [rd_set _ hl,if_pos rfl,List.length_append,List.length_singleton]
  simp only [h1] at e;have:=h.sum;rw [List.length_append,List.length_singleton];omega
theorem AtOk.le {g:Grammar}{T:List P3}{at_:List (List Int)}(h:AtOk g T at_){x:Nat}(hx:x<g.Names.length):(rd at_ (x:Int)).length≤T.length:=by
 have h3:∀ n,x<n→(rd at_ (x:Int)).length≤wsum (fun x=>(rd at_ (x:Int)).length) n:=by
  intro n
  induction n with
  | zero=>intro h;omega
  | succ n ih =>
   intro hh;simp only [wsum]
   by_cases c:x=n
   ·subst c;omega
   ·have:=ih (by omega);omega
 have:=h3 _ hx;have:=h.sum;omega
theorem tripC_succ (r c n:Nat):(List.range (n+1)).map (fun m=>((r,c,m):P3))=(List.range n).map (fun m=>((r,c,m):P3))++[(r,c,n)]:=by simp [List.range_succ]
theorem tConj_spec (K:Nat)(hK:1000000≤K)(g:Grammar)(xs:List Int)(hm:mayP g)(hl:LvF g xs)(most:Int)(bg:List (List Int))(T:List P3)(at_:List (List Int))(ha:AtOk g T at_)(r c:Nat)(hr:r<g.Rules.length)(hc:c<nc g r)(hT:T.length+(sq g r c).length+1≤3072) :
  ∃ at2,L7 K ⟨g,xs,most,T.map (mkP g xs),bg,at_,[],[],0,[]⟩ r r c=some ⟨g,xs,most,(T++tripC r c (sq g r c).length).map (mkP g xs),bg,at2,[],[],0,[]⟩∧AtOk g (T++tripC r c (sq g r c).length) at2:=by
 have q4:(sq g r c).length≤64:=((may_bd hm).2 _ (rd_mem' hr)).2 _ (rd_mem' hc);have hh:=(hl.lv _ (rd_mem' hr)).1;have e0:IntKind.wrap .i64 (((sq g r c).length:Int)+1)=((sq g r c).length:Int)+1:=wr (by omega) (by omega);have key:=rounds (σ:=List W2×List (List Int)×Int) (ρ:=List W2×List (List Int)×Int) (L:=L7.l0 K ⟨g,xs,most,T.map (mkP g xs),bg,at_,[],[],0,[]⟩ r r c)
  (fun z=>∃ (m:Nat) (at2:List (List Int)),z=((T++(List.range m).map fun m=>((r,c,m):P3)).map (mkP g xs),at2,(m:Int))∧m≤(sq g r c).length+1∧AtOk g (T++(List.range m).map fun m=>((r,c,m):P3)) at2)
  (fun z=>(sq g r c).length+1-z.2.2.toNat)
  (fun ρ=>∃ at2 k,ρ=((T++tripC r c (sq g r c).length).map (mkP g xs),at2,k)∧AtOk g (T++tripC r c (sq g r c).length) at2) ?_ K (T.map (mkP g xs),at_,0) ⟨0,at_,by simp,Nat.zero_le _,by simpa using ha⟩ (by simp;omega)
 ·obtain ⟨ρ,e1,at2,k,rfl,h2⟩:=key;unfold L7;rw [if_pos (by omega),if_pos (by show (r:Int)<(g.Rules.length:Int);omega),if_pos (by omega),if_pos (by show (c:Int)<((nc g r:Nat):Int);omega),e1];exact ⟨at2,rfl,h2⟩
 ·rintro z mm ⟨m,at2,rfl,k1,k2⟩;simp only [L7.l0];have e0':IntKind.wrap .i64 (((rd (rd g.Rules (r:Int)).Conj (c:Int)).Seq.length:Int)+1)=((sq g r c).length:Int)+1:=e0;rw [e0']
  by_cases hq:m≤(sq g r c).length
  ·have e2:IntKind.wrap .i64 ((m:Int)+1)=((m+1:Nat):Int):=by rw [wr (by omega) (by omega)];omega
   have ll:(T++(List.range m).map fun m=>((r,c,m):P3)).length=T.length+m:=by simp
   have emk:(T++(List.range (m+1)).map fun m=>((r,c,m):P3)).map (mkP g xs)=(T++(List.range m).map fun m=>((r,c,m):P3)).map (mkP g xs)++[mkP g xs (r,c,m)]:=by
    rw [tripC_succ,← List.append_assoc,List.map_append];rfl
   rw [if_pos (by omega),if_pos (by omega),if_pos (by show (r:Int)<(g.Rules.length:Int);omega),if_pos hh.1,if_pos (by show _<(xs.length:Int);rw [hl.xl];exact hh.2)];simp only [e2]
   by_cases hlast:m=(sq g r c).length
   ·rw [if_neg (by
     rw [Classical.not_not];show (m:Int)=((sq g r c).length:Int);omega),if_pos (by rw [List.length_map,ll];simp only [List.length_singleton];omega)]
    refine .inr ⟨_,⟨m+1,at2,?_,by omega,?_⟩,by simp;omega,rfl⟩
    ·rw [emk]
     congr 3
     unfold mkP;rw [if_neg (by simp only;omega)]
    ·rw [tripC_succ,← List.append_assoc];exact k2.skip fun x hx=>by have:=hx.1;simp only at this;omega
   ·have hlt:m<(sq g r c).length:=by omega
    have esym:mkP g xs (r,c,m)=⟨⟨(rd (sq g r c) (m:Int)).Name,(rd (sq g r c) (m:Int)).Lo,(rd (sq g r c) (m:Int)).Hi⟩,decide ((m:Int)=((rd (rd g.Rules (r:Int)).Conj (c:Int)).Seq.length:Int)),decide ((m:Int)=0),(rd (rd g.Rules (r:Int)).Conj (c:Int)).Neg,(r:Int),rd xs (rd g.Rules (r:Int)).Head⟩:=by
     unfold mkP;rw [if_pos (by simp only;omega)]
    rw [if_pos (by show ¬ (m:Int)=((sq g r c).length:Int);omega),if_pos (by omega),if_pos (by show (m:Int)<((sq g r c).length:Int);omega)]
    by_cases h0:0≤(rd (sq g r c) (m:Int)).Name
    ·have hnm:(rd (sq g r c) (m:Int)).Name<(g.Names.length:Int):=((hl.lv _ (rd_mem' hr)).2 _ (rd_mem' hc) _ (rd_mem' hlt) h0).1;obtain ⟨y,ey⟩:∃ y:Nat,(rd (sq g r c) (m:Int)).Name=(y:Int):=⟨(rd (sq g r c) (m:Int)).Name.toNat,by omega⟩
     have hy:y<g.Names.length:=by omega
     have hle:=k2.le hy;rw [ll] at hle;have ey':(rd (rd (rd g.Rules (r:Int)).Conj (c:Int)).Seq (m:Int)).Name=(y:Int):=ey;rw [if_pos h0,if_pos h0,if_pos (by show (rd (sq g r c) (m:Int)).Name<_;rw [ey,k2.len];omega),if_pos (by show ((rd at2 (rd (sq g r c) (m:Int)).Name).length+1)*8≤_;rw [ey];omega),if_pos (by rw [List.length_map,ll];simp only [List.length_singleton];omega)];refine .inr ⟨_,⟨m+1,at2.set y (rd at2 (y:Int)++[((T++(List.range m).map fun m=>((r,c,m):P3)).length:Int)]),?_,by omega,?_⟩,by simp;omega,rfl⟩
     ·rw [emk,esym];rw [ey',Int.toNat_natCast,List.length_map]
     ·rw [tripC_succ,← List.append_assoc];exact k2.put hy ⟨hlt,ey⟩
    ·rw [if_neg h0,if_pos (by rw [List.length_map,ll];simp only [List.length_singleton];omega)];refine .inr ⟨_,⟨m+1,at2,?_,by omega,?_⟩,by simp;omega,rfl⟩
     ·rw [emk,esym]
     ·rw [tripC_succ,← List.append_assoc];exact k2.skip fun x hx=>by have:=hx.2;simp only at this;omega
  ·rw [if_neg (by omega)];have:m=(sq g r c).length+1:=by omega
   subst this;exact .inl ⟨_,rfl,at2,_,rfl,k2⟩
def bgL (g:Grammar)(r c:Nat):List Int:=(List.range c).map fun c:Nat=>(((tripAll g r).length+(tripTo g r c).length:Nat):Int)
theorem bgL_succ (g:Grammar)(r c:Nat):bgL g r (c+1)=bgL g r c++[(((tripAll g r).length+(tripTo g r c).length:Nat):Int)]:=by simp [bgL,List.range_succ]
def bgA (g:Grammar)(r:Nat):List (List Int):=(List.range r).map fun r:Nat=>bgL g r (nc g r)
theorem bgA_succ (g:Grammar)(r:Nat):bgA g (r+1)=bgA g r++[bgL g r (nc g r)]:=by simp [bgA,List.range_succ]
theorem tripAll_pre (g:Grammar):∀ (k r:Nat),∃ t,tripAll g (r+k)=tripAll g r++t
 | 0,r=>⟨[],by simp⟩
 | k+1,r=>by
  obtain ⟨t,e⟩:=tripAll_pre g k r;exact ⟨t++tripTo g (r+k) (nc g (r+k)),by rw [← Nat.add_assoc,tripAll_succ,e,List.append_assoc]⟩
theorem tripTo_pre (g:Grammar)(r:Nat):∀ (k c:Nat),∃ t,tripTo g r (c+k)=tripTo g r c++t
 | 0,c=>⟨[],by simp⟩
 | k+1,c=>by
  obtain ⟨t,e⟩:=tripTo_pre g r k c;exact ⟨t++tripC r (c+k) (sq g r (c+k)).length,by rw [← Nat.add_assoc,tripTo_succ,e,List.append_assoc]⟩
theorem trip_split (g:Grammar){r c:Nat}(hr:r<g.Rules.length)(hc:c<nc g r):∃ t,trip g=tripAll g r++tripTo g r c++tripC r c (sq g r c).length++t:=by
 obtain ⟨t1,e1⟩:=tripAll_pre g (g.Rules.length-(r+1)) (r+1);obtain ⟨t2,e2⟩:=tripTo_pre g r (nc g r-(c+1)) (c+1);rw [show r+1+(g.Rules.length-(r+1))=g.Rules.length by omega] at e1;rw [show c+1+(nc g r-(c+1))=nc g r by omega] at e2;refine ⟨t2++t1,?_⟩;unfold trip;rw [e1,tripAll_succ,e2,tripTo_succ];simp only [List.append_assoc]
theorem tNew_l1 (K:Nat)(hK:1000000≤K)(g:Grammar)(xs:List Int)(hm:mayP g)(hl:LvF g xs)(o:y0)(ho:o.g=g)(most:Int)(bg:List (List Int))(r:Nat)(hr:r<g.Rules.length)(at_:List (List Int))(ha:AtOk g (tripAll g r) at_) :
  ∃ at2 k,y9.l1 K o r K (⟨g,xs,most,(tripAll g r).map (mkP g xs),bg,at_,[],[],0,[]⟩,([]:List Int),0)=some (⟨g,xs,most,(tripAll g (r+1)).map (mkP g xs),bg,at2,[],[],0,[]⟩,bgL g r (nc g r),k)∧AtOk g (tripAll g (r+1)) at2:=by
 have hn8:nc g r≤8:=((may_bd hm).2 _ (rd_mem' hr)).1;have hpn:=trip_len hm;have key:=rounds (σ:=y0×List Int×Int) (ρ:=y0×List Int×Int) (L:=y9.l1 K o r)
  (fun z=>∃ (c:Nat) (at2:List (List Int)),z=(⟨g,xs,most,(tripAll g r++tripTo g r c).map (mkP g xs),bg,at2,[],[],0,[]⟩,bgL g r c,(c:Int))∧c≤nc g r∧AtOk g (tripAll g r++tripTo g r c) at2)
  (fun z=>nc g r-z.2.2.toNat)
  (fun ρ=>∃ at2 k,ρ=(⟨g,xs,most,(tripAll g (r+1)).map (mkP g xs),bg,at2,[],[],0,[]⟩,bgL g r (nc g r),k)∧AtOk g (tripAll g (r+1)) at2) ?_ K (⟨g,xs,most,(tripAll g r).map (mkP g xs),bg,at_,[],[],0,[]⟩,([]:List Int),0) ⟨0,at_,by simp [tripTo,bgL],Nat.zero_le _,by simpa [tripTo] using ha⟩ (by simp;omega)
 ·obtain ⟨ρ,e1,at2,k,rfl,h2⟩:=key;exact ⟨at2,k,e1,h2⟩
 ·rintro z mm ⟨c,at2,rfl,k1,k2⟩;simp only [y9.l1];rw [ho]
  by_cases hq:c<nc g r
  ·have e2:IntKind.wrap .i64 ((c:Int)+1)=((c+1:Nat):Int):=by rw [wr (by omega) (by omega)];omega
   obtain ⟨t,et⟩:=trip_split g hr hq;have hlen:(trip g).length=(tripAll g r++tripTo g r c).length+((sq g r c).length+1)+t.length:=by rw [et,List.length_append,List.length_append,tripC_len]
   have hb:(bgL g r c).length=c:=by simp [bgL]
   obtain ⟨at3,ec,h3⟩:=tConj_spec K hK g xs hm hl most bg (tripAll g r++tripTo g r c) at2 k2 r c hr hq (by omega);rw [if_pos (by show (c:Int)<((nc g r:Nat):Int);omega),if_pos (by rw [hb];simp only [List.length_singleton];omega),if_pos (by show (r:Int)<(g.Rules.length:Int);omega),if_pos (by omega),if_pos (by show (c:Int)<((nc g r:Nat):Int);omega),ec,Option.bind_some];simp only [e2];refine .inr ⟨_,⟨c+1,at3,?_,hq,by rw [tripTo_succ,← List.append_assoc];exact h3⟩,by simp;omega,rfl⟩;rw [tripTo_succ,← List.append_assoc,bgL_succ,List.length_map,List.length_append]
  ·rw [if_neg (by show ¬ (c:Int)<((nc g r:Nat):Int);omega)];have:c=nc g r:=by omega
   subst this;exact .inl ⟨_,rfl,at2,_,by rw [tripAll_succ],by rw [tripAll_succ];exact k2⟩
theorem tNew_l0 (K:Nat)(hK:1000000≤K)(g:Grammar)(xs:List Int)(hm:mayP g)(hl:LvF g xs)(u:Int)(v:List Int) :
  ∃ most at2 k,y9.l0 K g K (⟨g,xs,0,[],[],List.replicate g.Names.length [],[],[],0,[]⟩,0)=some (⟨g,xs,most,(trip g).map (mkP g xs),bgA g g.Rules.length,at2,[],[],0,[]⟩,k)∧AtOk g (trip g) at2∧(0≤most∧most≤64)∧∀ r,r<g.Rules.length→rd xs (rd g.Rules (r:Int)).Head≤most:=by
 have hrl:g.Rules.length≤256:=hm.2.2.2.2.1;have hnl:g.Names.length≤64:=hm.1.2.1;have ha0:AtOk g [] (List.replicate g.Names.length ([]:List Int)):=by
  refine ⟨by simp,fun x hx v=>?_,?_⟩
  ·rw [rd_rep _ hx];simp
  ·rw [wsum_congr (h:=fun _=>0) (fun k hk=>by rw [rd_rep _ hk];rfl),wsum_const];simp
 have key:=rounds (σ:=y0×Int) (ρ:=y0×Int) (L:=y9.l0 K g)
  (fun z=>∃ (r:Nat) (most:Int) (at2:List (List Int)),z=(⟨g,xs,most,(tripAll g r).map (mkP g xs),bgA g r,at2,[],[],0,[]⟩,(r:Int))∧r≤g.Rules.length∧AtOk g (tripAll g r) at2∧(0≤most∧most≤64)∧∀ q,q<r→rd xs (rd g.Rules (q:Int)).Head≤most)
  (fun z=>g.Rules.length-z.2.toNat)
  (fun ρ=>∃ most at2 k,ρ=(⟨g,xs,most,(trip g).map (mkP g xs),bgA g g.Rules.length,at2,[],[],0,[]⟩,k)∧AtOk g (trip g) at2∧(0≤most∧most≤64)∧∀ r,r<g.Rules.length→rd xs (rd g.Rules (r:Int)).Head≤most) ?_ K (⟨g,xs,0,[],[],List.replicate g.Names.length [],[],[],0,[]⟩,0) ⟨0,0,_,rfl,Nat.zero_le _,ha0,⟨by decide,by decide⟩,fun q hq=>by omega⟩ (by simp;omega)
 ·obtain ⟨ρ,e1,most,at2,k,rfl,h2⟩:=key;exact ⟨most,at2,k,e1,h2⟩
 ·rintro z mm ⟨r,most,at2,rfl,k1,k2,k3,k4⟩;simp only [y9.l0]
  by_cases hr:r<g.Rules.length
  ·have e2:IntKind.wrap .i64 ((r:Int)+1)=((r+1:Nat):Int):=by rw [wr (by omega) (by omega)];omega
   have hh:=(hl.lv _ (rd_mem' hr)).1;have hx0:=hl.l0 _ hh.1 hh.2;have hx1:=hl.l1 _ hh.1 hh.2;obtain ⟨m2,em,m3,m4,m5⟩:∃ m2,(if most<rd xs (rd g.Rules (r:Int)).Head then rd xs (rd g.Rules (r:Int)).Head else most)=m2∧most≤m2∧rd xs (rd g.Rules (r:Int)).Head≤m2∧m2≤64:=by
    refine ⟨_,rfl,?_,?_,?_⟩ <;> split <;> omega
   obtain ⟨at3,k,e3,h3⟩:=tNew_l1 K hK g xs hm hl ⟨g,xs,most,(tripAll g r).map (mkP g xs),bgA g r,at2,[],[],0,[]⟩ rfl m2 (bgA g r) r hr at2 k2;have hbl:(bgA g r).length=r:=by simp [bgA]
   rw [if_pos (by omega),if_pos (by omega),if_pos (by omega),if_pos hh.1,if_pos (by show _<(xs.length:Int);rw [hl.xl];exact hh.2)];simp only [em,e2];erw [e3];rw [Option.bind_some];simp only;rw [if_pos (by rw [hbl];omega)];refine .inr ⟨_,⟨r+1,m2,at3,?_,hr,h3,⟨by omega,m5⟩,fun q hq=>?_⟩,by simp;omega,rfl⟩
   ·rw [bgA_succ]
   ·by_cases e:q=r
    ·subst e;exact m4
    ·have:=k4 q (by omega);omega
  ·rw [if_neg (by omega)];have:r=g.Rules.length:=by omega
   subst this;exact .inl ⟨_,rfl,most,at2,_,rfl,k2,k3,k4⟩
theorem tNew_spec (K:Nat)(hK:1000000≤K)(g:Grammar):(∃ s,StrOut g s∧s.2.2≠0∧y9 K g=some (none,1500))∨∃ xs e,StrOut g (xs,[],0)∧y9 K g=some (some e,0)∧EngT g xs [] e:=by
 obtain ⟨s,hs,ho⟩:=Strata_spec K (by omega) g;unfold y9;rw [hs,Option.bind_some]
 by_cases h0:s.2.2=0
 ·obtain ⟨hm,hno,xs,hx,rfl⟩:=ho.fine h0;rw [if_neg (fun h=>h rfl),mCopy_spec K (by omega) g hm,Option.bind_some];have hf:=ho.lvf;have hnl:g.Names.length≤64:=hm.1.2.1;obtain ⟨most,at2,k,e1,h1,h2,h3⟩:=tNew_l0 K hK g xs hm hf 0 [];have hx:CX g xs []:=⟨hf.may,hf.xl,hf.lv,hf.l0,hf.l1,by simp,fun k hk=>by simp at hk⟩
  have hT:TX ⟨g,xs,most,(trip g).map (mkP g xs),bgA g g.Rules.length,at2,[]⟩:=by
   refine ⟨hx,h2,h3,rfl,by simp [bgA],fun r hr=>?_,fun r hr c hc=>?_,h1⟩
   ·show (rd (bgA g g.Rules.length) (r:Int)).length=_;unfold bgA;rw [rd_map (by simpa using hr),rd_nat,List.getD_eq_getElem?_getD,List.getElem?_range hr];simp [bgL]
   ·refine ⟨(tripAll g r).length+(tripTo g r c).length,?_,?_,?_⟩
    ·show rd (rd (bgA g g.Rules.length) (r:Int)) (c:Int)=_;unfold bgA;rw [rd_map (by simpa using hr),rd_nat (List.range _),List.getD_eq_getElem?_getD,List.getElem?_range hr];show rd (bgL g r (nc g r)) (c:Int)=_;unfold bgL;rw [rd_map (by simpa using hc),rd_nat (List.range _),List.getD_eq_getElem?_getD,List.getElem?_range hc];rfl
    ·obtain ⟨t,et⟩:=trip_split g hr hc;rw [et,List.length_append,List.length_append,List.length_append,tripC_len];omega
    ·obtain ⟨t,et⟩:=trip_split g hr hc;show rd (trip g) _=_;rw [et,List.append_assoc,rd_app_ge (by rw [List.length_append];omega),List.length_append,Nat.sub_self,rd_app_lt (by rw [tripC_len];omega),tripC_rd (by omega)]
  obtain ⟨C',n',e2,hg,g1,g2⟩:=tGrow_spec K hK _ hT [] rfl ⟨fun k hk=>by simp at hk,fun k hk=>by simp at hk,fun k hk=>by simp at hk,fun k hk=>by simp at hk⟩ (fun i k _ hk=>by simp at hk) (fun p _ i k _ hk=>by simp at hk) 0 (by omega);refine .inr ⟨xs,E ⟨g,xs,most,(trip g).map (mkP g xs),bgA g g.Rules.length,at2,[]⟩ C' n' [],ho,?_,⟨_,C',n',rfl,rfl,rfl,rfl,hT,hg,?_⟩⟩
  ·rw [if_pos (by omega),Int.toNat_natCast];erw [e1];simp only [Option.bind_some];erw [e2];rfl
  ·have g2:n'≤0+(0+1)*((trip g).length*(3*0+16)):=g2;show n'≤16*(trip g).length*((0+1)*(0+1)*(0+1));omega
 ·rw [if_pos h0];exact .inl ⟨s,ho,h0,rfl⟩
end Go.Proofs.YtcoineklodmbnaaGreat

