import Derived.Test.YtgmnohjaciemmaaW7
namespace Go.Proofs.Ytgmnohjaciemmaa
open S Go.Sort
set_option linter.unusedVariables false
set_option linter.unusedSimpArgs false
set_option maxRecDepth 100000
structure AI (g:Grammar) (i:Nat) (done:List Symbol) (S:List (List Place)) (M:List Move):Prop where
 rl:∀ r ∈ S,RL g r
 pos:0<S.length
 nd:S.Nodup
 mv:∀ m ∈ M,0≤m.From∧(m.From<(i:Int)∨(m.From=(i:Int)∧m.Symbol ∈ done))∧m.From<(S.length:Int)∧0≤m.To∧m.To<(S.length:Int)∧m.Symbol ∈ syms g (rd S m.From)∧rd S m.To=clos g (onX g (rd S m.From) m.Symbol)
 pw:M.Pairwise fun a b=>a.From≤b.From∧¬ (a.From=b.From∧a.Symbol=b.Symbol)
 reach:∀ t:Nat,0<t→t<S.length→∃ m ∈ M,m.To=(t:Int)∧m.From<(t:Int)
 zero:rd S 0=clos g (begs g g.Start)
 ml:M.length≤i*262144+done.length
theorem addS_rdI {S:List (List Place)} (r:List Place) {i:Int} (h0:0≤i) (hi:i<(S.length:Int)):rd (addS S r) i=rd S i:=by
 have:=addS_pre r (i:=i.toNat) (S:=S) (by omega)
 rwa [Int.toNat_of_nonneg h0] at this
theorem AI.step {g:Grammar} (hm:mayP g) {i:Nat} {done:List Symbol} {S:List (List Place)} {M:List Move} (h:AI g i done S M) (hi:i<S.length) {x:Symbol} (hx:x ∈ syms g (rd S (i:Int))) (hd:x ∉ done):AI g i (done++[x]) (stp g i (rd S (i:Int)) (S,M) x).1 (stp g i (rd S (i:Int)) (S,M) x).2:=by
 have hp:RL g (rd S (i:Int)):=h.rl _ (mem_rd.2 ⟨i,hi,rfl⟩)
 have hr:=clos_onX hm hp x
 generalize hrr:clos g (onX g (rd S (i:Int)) x)=r at hr
 have hl:=addS_len S r
 have hto:rd (addS S r) (ixOf S r:Int)=r∧(ixOf S r:Nat)<(addS S r).length:=by
  by_cases hm:r ∈ S
  ·have:=ixOf_mem hm
   rw [addS_pre _ this]
   exact ⟨rd_ixOf hm,by omega⟩
  ·rw [ixOf_no hm]
   unfold addS
   rw [if_neg hm]
   exact ⟨by rw [rd_nat];simp,by simp⟩
 have e1:(stp g i (rd S (i:Int)) (S,M) x).1=addS S r:=by simp only [stp,hrr]
 have e2:(stp g i (rd S (i:Int)) (S,M) x).2=M++[(⟨(i:Int),x,(ixOf S r:Int)⟩:Move)]:=by simp only [stp,hrr]
 rw [e1,e2]
 refine ⟨addS_rl h.rl hr,by have:=h.pos;omega,?_,fun m hmm=>?_,?_,fun t h0 ht=>?_,?_,?_⟩
 ·unfold addS
  split
  ·exact h.nd
  ·rename_i hn
   refine List.nodup_append.2 ⟨h.nd,by simp,fun a ha b hb e=>?_⟩
   simp at hb;subst hb;exact hn (e ▸ ha)
 ·rcases List.mem_append.1 hmm with hmm | hmm
  ·obtain ⟨q1,q2,q3,q4,q5,q6,q7⟩:=h.mv m hmm
   refine ⟨q1,q2.imp id fun y=>⟨y.1,by simp [y.2]⟩,by omega,q4,by omega,?_,?_⟩
   ·rw [addS_rdI r q1 q3];exact q6
   ·rw [addS_rdI r q1 q3,addS_rdI r q4 q5];exact q7
  ·simp at hmm;subst hmm
   refine ⟨Int.natCast_nonneg i,.inr ⟨rfl,by simp⟩,by show (i:Int)<_;omega,Int.natCast_nonneg _,by show (ixOf S r:Int)<_;omega,?_,?_⟩
   ·show x ∈ syms g (rd (addS S r) (i:Int));rw [addS_pre _ hi];exact hx
   ·show rd (addS S r) (ixOf S r:Int)=clos g (onX g (rd (addS S r) (i:Int)) x);rw [addS_pre _ hi,hrr,hto.1]
 ·refine List.pairwise_append.2 ⟨h.pw,by simp,fun a ha b hb=>?_⟩
  simp at hb;subst hb
  obtain ⟨q1,q2,q3,_⟩:=h.mv a ha
  refine ⟨by show a.From≤(i:Int);rcases q2 with y | y <;> omega,fun y=>?_⟩
  have y1:a.From=(i:Int):=y.1
  have y2:a.Symbol=x:=y.2
  rcases q2 with z | z
  ·omega
  ·exact hd (y2 ▸ z.2)
 ·by_cases ht2:t<S.length
  ·obtain ⟨m,h1,h2,h3⟩:=h.reach t h0 ht2
   exact ⟨m,by simp [h1],h2,h3⟩
  ·have ht3:t=S.length:=by omega
   have hn:r ∉ S:=fun hm=>by unfold addS at ht;rw [if_pos hm] at ht;omega
   refine ⟨_,List.mem_append.2 (.inr (List.mem_singleton.2 rfl)),?_,?_⟩
   ·show (ixOf S r:Int)=(t:Int);rw [ixOf_no hn,ht3]
   ·show (i:Int)<(t:Int);omega
 ·rw [show (0:Int)=((0:Nat):Int) from rfl,addS_pre _ h.pos];exact h.zero
 ·have:=h.ml;simp only [List.length_append,List.length_cons,List.length_nil];omega
theorem AI.fold {g:Grammar} (hm:mayP g) {i:Nat} {ps:List Place}:∀ (xs done:List Symbol) (S:List (List Place)) (M:List Move),AI g i done S M→i<S.length→rd S (i:Int)=ps→(∀ x ∈ xs,x ∈ syms g ps)→(done++xs).Nodup→AI g i (done++xs) (xs.foldl (stp g i ps) (S,M)).1 (xs.foldl (stp g i ps) (S,M)).2
 | [],done,S,M,h,_,_,_,_=>by simpa using h
 | x::xs,done,S,M,h,hi,hps,hx,hn=>by
  have hd:x ∉ done:=fun hm=>(List.nodup_append.1 hn).2.2 x hm x (by simp) rfl
  have h1:=AI.step hm h hi (hps ▸ hx x (by simp)) hd
  rw [hps] at h1
  have hal:=addS_len S (clos g (onX g ps x))
  have h2:=AI.fold hm xs (done++[x]) (stp g i ps (S,M) x).1 (stp g i ps (S,M) x).2 h1 (by simp only [stp];omega) (by simp only [stp];rw [addS_pre _ hi];exact hps) (fun y hy=>hx y (by simp [hy])) (by simpa using hn)
  rw [List.foldl_cons]
  rw [List.append_assoc] at h2
  exact h2
theorem AI.next {g:Grammar} (hm:mayP g) {i:Nat} {S:List (List Place)} {M:List Move} (h:AI g i [] S M) (hi:i<S.length):AI g (i+1) [] (stA g i (rd S (i:Int)) (S,M)).1 (stA g i (rd S (i:Int)) (S,M)).2:=by
 have h1:=AI.fold hm (syms g (rd S (i:Int))) [] S M h hi rfl (fun x hx=>hx) (by simpa using syms_nodup g _)
 have hs:=syms_len g (rd S (i:Int))
 have hp:RL g (rd S (i:Int)):=h.rl _ (mem_rd.2 ⟨i,hi,rfl⟩)
 have hl:=hp.len (may_bd hm)
 refine ⟨h1.rl,h1.pos,h1.nd,fun m hmm=>?_,h1.pw,h1.reach,h1.zero,?_⟩
 ·obtain ⟨q1,q2,q3⟩:=h1.mv m hmm
  exact ⟨q1,.inl (by rcases q2 with y | y <;> omega),q3⟩
 ·have h5:=h1.ml
  rw [List.nil_append] at h5
  rw [Nat.add_mul]
  exact Nat.le_trans h5 (by omega)
def grA:Grammar:=(⟨(0:Int),([(⟨#[83]⟩:ByteArray)]:List ByteArray),([(⟨(0:Int),([(⟨false,([(⟨(-1),97,97⟩:Symbol),(⟨(0:Int),(0:Int),(0:Int)⟩:Symbol)]:List Symbol)⟩:Conjunct)]:List Conjunct)⟩:Rule),(⟨(0:Int),([(⟨false,([]:(List Symbol))⟩:Conjunct)]:List Conjunct)⟩:Rule)]:List Rule)⟩:Grammar)
def auA:Automaton:=⟨[[⟨0,0,0⟩,⟨1,0,0⟩],[⟨0,0,0⟩,⟨0,0,1⟩,⟨1,0,0⟩],[⟨0,0,2⟩]],[⟨0,⟨-1,97,97⟩,1⟩,⟨1,⟨-1,97,97⟩,1⟩,⟨1,⟨0,0,0⟩,2⟩]⟩
theorem bldA (K:Nat):Q0 (K+1000) grA=some (auA,0):=by kernel_rfl
theorem clsA (K:Nat):L2 (K+1000) grA [⟨0,0,1⟩]=some ([⟨0,0,0⟩,⟨0,0,1⟩,⟨1,0,0⟩],0):=by kernel_rfl
theorem clsB (K:Nat):L2 (K+1000) grA [⟨0,0,3⟩]=some ([],1300):=by kernel_rfl
theorem Build_ref (K:Nat) (hK:KW≤K) (g:Grammar):W3 K g=Q0 K g:=by
 obtain ⟨b,_,h1,h2⟩:=Build_both K hK g
 rw [h1,h2]
theorem Close_ref (K:Nat) (hK:KW≤K) (g:Grammar) (ps:List Place) (hl:ps.length*24≤140737488351232):P3 K g ps=L2 K g ps:=by
 obtain ⟨b,_,h1,h2⟩:=Close_both K hK g ps hl
 rw [h1,h2]
theorem awake13 (K:Nat) (hK:KW≤K):k4 K=some true:=by
 have e1:=Build_ref K hK grA
 have e2:=Close_ref K hK grA [⟨0,0,1⟩] (by simp)
 have e3:=Close_ref K hK grA [⟨0,0,3⟩] (by simp)
 have s1:=SameMv_spec K auA.Moves [⟨0,⟨-1,97,97⟩,1⟩,⟨1,⟨-1,97,97⟩,1⟩,⟨1,⟨0,0,0⟩,2⟩] (by unfold KW at hK;simp [auA];omega) (by simp [auA])
 have s2:=SamePl_spec K [⟨0,0,0⟩,⟨0,0,1⟩,⟨1,0,0⟩] [⟨0,0,0⟩,⟨0,0,1⟩,⟨1,0,0⟩] (by unfold KW at hK;simp;omega) (by simp)
 obtain ⟨K',rfl⟩:∃ q,K=q+1000:=⟨K-1000,by unfold KW at hK;omega⟩
 rw [bldA] at e1
 rw [clsA] at e2
 rw [clsB] at e3
 unfold k4
 rw [show (⟨(0:Int),([(⟨#[83]⟩:ByteArray)]:List ByteArray),([(⟨(0:Int),([(⟨false,([(⟨(-1),97,97⟩:Symbol),(⟨(0:Int),(0:Int),(0:Int)⟩:Symbol)]:List Symbol)⟩:Conjunct)]:List Conjunct)⟩:Rule),(⟨(0:Int),([(⟨false,([]:(List Symbol))⟩:Conjunct)]:List Conjunct)⟩:Rule)]:List Rule)⟩:Grammar)=grA from rfl,e1,Option.bind_some,e2,Option.bind_some,e3,Option.bind_some]
 dsimp only
 rw [if_pos (show (auA.States.length:Int)=3 from rfl),s1,Option.bind_some,if_pos (by simp [auA])]
 unfold V1
 rw [Option.bind_some,if_pos rfl,s2,Option.bind_some,if_pos (by simp),Option.bind_some,if_pos rfl,Option.bind_some]
 rfl
end Go.Proofs.Ytgmnohjaciemmaa

namespace Go.Proofs.Ytgmnohjaciemmaa
open S
set_option linter.unusedVariables false
set_option linter.unusedSimpArgs false
set_option maxRecDepth 100000
inductive Reach (es:List Edge):Int→Int→Prop
 | refl (i:Int):Reach es i i
 | step {i:Int} {e:Edge}:Reach es i e.From→e ∈ es→Reach es i e.To
theorem Reach.trans {es:List Edge} {i j k:Int} (h1:Reach es i j) (h2:Reach es j k):Reach es i k:=by
 induction h2 with
 | refl=>exact h1
 | step _ he ih=>exact .step ih he
def BLe (xs ys:List Bool):Prop:=xs.length=ys.length∧∀ i:Nat,i<xs.length→rd xs (i:Int)=true→rd ys (i:Int)=true
theorem BLe.refl (xs:List Bool):BLe xs xs:=⟨rfl,fun _ _ h=>h⟩
theorem BLe.trans {xs ys zs:List Bool} (h1:BLe xs ys) (h2:BLe ys zs):BLe xs zs:=⟨h1.1.trans h2.1,fun i hi h=>h2.2 i (by have:=h1.1;omega) (h1.2 i hi h)⟩
open S Go.Sort
theorem scan_from {ρ:Type} {n K:Nat} {L:Nat→Int→Option (Int ⊕ ρ)} (i0:Nat) (hi:i0≤n) (hn:n<K) (step:∀ m i,i0≤i→i<n→L (m+1) (i:Int)=L m ((i:Int)+1)) (stop:∀ m,L (m+1) (n:Int)=some (.inl (n:Int))):L K (i0:Int)=some (.inl (n:Int)):=by
 have key:∀ k i m,i+k=n→k<m→i0≤i→L m (i:Int)=some (.inl (n:Int)):=by
  intro k
  induction k with
  | zero =>
   intro i m hi hm _
   obtain ⟨m,rfl⟩:∃ q,m=q+1:=⟨m-1,by omega⟩
   have:i=n:=by omega
   subst this
   exact stop m
  | succ k ih =>
   intro i m hi hm h0
   obtain ⟨m,rfl⟩:∃ q,m=q+1:=⟨m-1,by omega⟩
   rw [step m i h0 (by omega)]
   simpa using ih (i+1) m (by omega) (by omega) (by omega)
 exact key (n-i0) i0 K (by omega) (by omega) (Nat.le_refl _)
theorem close_rl (K:Nat) (hK:KW≤K) {g:Grammar} (hm:mayP g) {ps:List Place} (hp:okL g ps) (hl:ps.length*24≤140737488351232):P3 K g ps=some (clos g ps,0)∧L2 K g ps=some (clos g ps,0):=by
 obtain ⟨b,h1,h2,h3⟩:=Close_both K hK g ps hl
 have:b=true:=h1.2 ⟨hm,hp⟩
 subst this
 exact ⟨h2,h3⟩
end Go.Proofs.Ytgmnohjaciemmaa

namespace Go.Proofs.Ytgmnohjaciemmaa
open S Go.Sort
set_option linter.unusedVariables false
set_option linter.unusedSimpArgs false
set_option maxRecDepth 100000
theorem cl_app {g:Grammar} {a b:List Place} {p:Place}:Cl g (a++b) p↔Cl g a p∨Cl g b p:=by
 constructor
 ·intro h
  induction h with
  | base h =>
   rcases List.mem_append.1 h with h | h
   ·exact .inl (.base h)
   ·exact .inr (.base h)
  | step _ h2 h3 ih=>exact ih.imp (fun h=>.step h h2 h3) (fun h=>.step h h2 h3)
 ·rintro (h | h)
  ·exact Cl.mono (fun q hq=>List.mem_append.2 (.inl hq)) h
  ·exact Cl.mono (fun q hq=>List.mem_append.2 (.inr hq)) h
theorem cl_cl {g:Grammar} {a b:List Place} (h:∀ p ∈ b,Cl g a p) {p:Place} (hp:Cl g b p):Cl g a p:=by
 induction hp with
 | base h1=>exact h _ h1
 | step _ h2 h3 ih=>exact .step ih h2 h3
theorem nodup_sub:∀ {a b:List Place},a.Nodup→(∀ p ∈ a,p ∈ b)→a.length≤b.length
 | [],b,_,_=>by simp
 | x::a,b,hn,h=>by
  rw [List.nodup_cons] at hn
  have hx:=h x (by simp)
  have:=nodup_sub (a:=a) (b:=b.erase x) hn.2 fun p hp=>(List.mem_erase_of_ne (fun e:p=x=>hn.1 (by rw [← e];exact hp))).2 (h p (by simp [hp]))
  rw [List.length_erase_of_mem hx] at this
  have hb:=List.length_pos_iff.2 (List.ne_nil_of_mem hx)
  rw [List.length_cons];omega
theorem twice_l1 (K:Nat) (hK:1000000≤K) (ps:List Place) (r:List Place×Int) (k:Nat) (hl:r.1.length≤300000) (h:rd ps (k:Int) ∈ r.1):P0.l1 K ps r k K (false,0)=some (true,(r.1.length:Int)):=by
 obtain ⟨b,h1,h2⟩:=invLoop (n:=r.1.length) (P0.l1 K ps r k) (fun j b=>b=true↔∃ q:Nat,q<j∧rd r.1 (q:Int)=rd ps (k:Int)) (fun m b j hj hI=>by
  simp only [P0.l1]
  rw [if_pos (by omega)]
  cases b with
  | true =>
   refine ⟨true,by rw [if_pos rfl,wr (a:=(j:Int)+1) (by omega) (by omega)],⟨fun _=>?_,fun _=>rfl⟩⟩
   obtain ⟨q,h1,h2⟩:=hI.1 rfl
   exact ⟨q,by omega,h2⟩
  | false =>
   refine ⟨decide (rd r.1 (j:Int)=rd ps (k:Int)),by rw [if_neg (by decide),if_pos (Int.natCast_nonneg j),if_pos (Int.natCast_nonneg k),wr (a:=(j:Int)+1) (by omega) (by omega)],?_⟩
   rw [decide_eq_true_iff]
   constructor
   ·intro h;exact ⟨j,by omega,h⟩
   ·rintro ⟨q,h1,h2⟩
    rcases Nat.lt_succ_iff_lt_or_eq.1 h1 with h1 | rfl
    ·have:=hI.2 ⟨q,h1,h2⟩;cases this
    ·exact h2) (fun m s=>by simp only [P0.l1];rw [if_neg (by omega)]) K (by omega) false ⟨fun h=>(by cases h),fun ⟨q,h,_⟩=>absurd h (Nat.not_lt_zero _)⟩
 obtain ⟨q,hq,e⟩:=mem_rd.1 h
 have:b=true:=h2.2 ⟨q,hq,e.symm⟩
 rw [h1,this]
theorem Twice_eq (K:Nat) (hK:KW≤K) (g:Grammar) (ps qs:List Place) (hp:ps.length≤2000000) (hq:qs.length≤2000000):P0 K g ps qs=some true:=by
 have hK':=hK
 unfold KW at hK'
 obtain ⟨b1,hb1,c1,_⟩:=Close_both K hK g ps (by omega)
 obtain ⟨b2,hb2,c2,_⟩:=Close_both K hK g qs (by omega)
 unfold P0 V1
 rw [awake13 K hK,Option.bind_some,if_neg (show ¬ (!true)=true by decide),c1,Option.bind_some,c2,Option.bind_some,Option.bind_some]
 cases b1 with
 | false=>rfl
 | true =>
  obtain ⟨hm,okp⟩:=hb1.1 rfl
  rw [if_pos (show true=true from rfl),if_neg (show ¬ ((clos g ps,(0:Int)).2≠0) from fun x=>x rfl),Option.bind_some]
  cases b2 with
  | false =>
   rw [if_neg (show ¬ false=true by decide),if_pos (show (([]:List Place),(1300:Int)).2≠0 by decide)]
   show (if ((clos g ps).length:Int)=0 then some true else some true).bind _=some true
   split <;> rfl
  | true =>
   obtain ⟨_,okq⟩:=hb2.1 rfl
   have hg:=may_bd hm
   have ip:=clos_is hm okp (by omega)
   have iq:=clos_is hm okq (by omega)
   have rp:=ip.rl okp
   have rq:=iq.rl okq
   have lp:=rp.len hg
   have lq:=rq.len hg
   have e1:clos g (clos g ps)=clos g ps:=clos_of (IsCl.of ip.1 (fun p h=>h) (fun p h=>.base h) fun q hq n hn p hpp=>(ip.2 p).2 (.step ((ip.2 q).1 hq) hn hpp))
   have oko:okL g (clos g ps++clos g qs):=fun p h=>(List.mem_append.1 h).elim (rp.2 p) (rq.2 p)
   have okd:okL g (ps++qs):=fun p h=>(List.mem_append.1 h).elim (okp p) (okq p)
   have io:=clos_is hm oko (by rw [List.length_append];omega)
   have id:=clos_is hm okd (by rw [List.length_append];omega)
   have hmem:∀ p,p ∈ clos g (ps++qs)↔Cl g ps p∨Cl g qs p:=fun p=>(id.2 p).trans cl_app
   have e2:clos g (ps++qs)=clos g (clos g ps++clos g qs):=by
    refine rising_uniq id.1 io.1 fun p=>?_
    rw [hmem,io.2,cl_app]
    exact ⟨fun h=>h.imp (fun h=>.base ((ip.2 p).2 h)) (fun h=>.base ((iq.2 p).2 h)),fun h=>h.imp (cl_cl fun q hq=>(ip.2 q).1 hq) (cl_cl fun q hq=>(iq.2 q).1 hq)⟩
   have ld:=(id.rl okd).len hg
   have c3:=(close_rl K hK hm rp.2 (by omega)).1
   have c4:=(close_rl K hK hm okd (by rw [List.length_append];omega)).1
   have c5:=(close_rl K hK hm oko (by rw [List.length_append];omega)).1
   rw [e1] at c3
   rw [← e2] at c5
   have hle:(clos g (ps++qs)).length≤(clos g ps++clos g qs).length:=nodup_sub (rising_nodup id.1) fun p h=>List.mem_append.2 (((hmem p).1 h).imp (ip.2 p).2 (iq.2 p).2)
   rw [List.length_append] at hle
   have l0:=scan_from (K:=K) (L:=P0.l0 K ps (clos g ps,0)) 0 (n:=ps.length) (Nat.zero_le _) (by omega) (fun m j _ hj=>by
    simp only [P0.l0]
    rw [if_pos (by omega),twice_l1 K (by omega) ps (clos g ps,0) j (by show (clos g ps).length≤_;omega) ((ip.2 _).2 (.base (mem_rd.2 ⟨j,hj,rfl⟩))),Option.bind_some]
    dsimp only
    rw [if_neg (by decide),wr (a:=(j:Int)+1) (by omega) (by omega)]) (fun m=>by simp only [P0.l0];rw [if_neg (by omega)])
   rw [show (((0:Nat):Int))=0 from rfl] at l0
   rw [if_pos (show true=true from rfl),if_neg (show ¬ ((clos g qs,(0:Int)).2≠0) from fun x=>x rfl)]
   dsimp only
   rw [c3,Option.bind_some,if_pos (by simp only [List.length_nil];omega),if_pos (by simp only [List.nil_append];omega),List.nil_append,c4,Option.bind_some,Option.bind_some,if_pos (by simp only [List.length_nil];omega),if_pos (by simp only [List.nil_append];omega),List.nil_append,c5,Option.bind_some,Option.bind_some,Option.bind_some,if_neg (fun x=>x rfl),Option.bind_some,if_neg (fun x=>x rfl),Option.bind_some,if_neg (fun x=>x rfl)]
   dsimp only
   rw [SamePl_spec K _ _ (by omega) (by omega),Option.bind_some,if_neg (by simp),SamePl_spec K _ _ (by omega) (by omega),Option.bind_some,if_neg (by simp),l0,brk_l,wr (by omega) (by omega),decide_eq_true (by omega)]
theorem mu_len {T:Type} {mu:T→Nat} {xs:List T} (h1:∀ x,1≤mu x):xs.length<muL mu xs:=by
 unfold muL
 induction xs with
 | nil=>simp
 | cons a l ih =>
  have:=h1 a
  rw [List.map_cons,List.sum_cons,List.length_cons];omega
theorem Twice_holds (g:Grammar) (ps qs:List Place) (w0:fa g) (m0:muGrammar g≤1048576) (w1:wfL ma 24 ps) (m1:muL muPlace ps≤1048576) (w2:wfL ma 24 qs) (m2:muL muPlace qs≤1048576):∃ K,P0 K g ps qs=some true:=by
 have h1:=mu_len (mu:=muPlace) (xs:=ps) (fun x=>by unfold muPlace;omega)
 have h2:=mu_len (mu:=muPlace) (xs:=qs) (fun x=>by unfold muPlace;omega)
 exact ⟨KW,Twice_eq KW (Nat.le_refl _) g ps qs (by omega) (by omega)⟩
end Go.Proofs.Ytgmnohjaciemmaa

