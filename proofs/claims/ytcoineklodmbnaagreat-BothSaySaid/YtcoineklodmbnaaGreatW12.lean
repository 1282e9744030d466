import Derived.Test.YtcoineklodmbnaaGreatW11
set_option linter.unusedVariables false
set_option linter.unusedSimpArgs false
namespace Go.Proofs.YtcoineklodmbnaaGreat
open S
def firstOf {ρ:Type}(B:Nat→Option ρ):Nat→Nat→Option ρ
 | 0,_=>none
 | k+1,i=>match B i with|some r=>some r|none=>firstOf B k (i+1)
theorem firstOf_none {ρ:Type}{B:Nat→Option ρ}:∀ {k i:Nat},firstOf B k i=none↔∀ j,i≤j→j<i+k→B j=none
 | 0,i=>⟨fun _ j h1 h2=>by omega,fun _=>rfl⟩
 | k+1,i=>by
  unfold firstOf;constructor
  ·intro h j h1 h2
   split at h
   ·cases h
   ·rename_i hb
    rcases Nat.eq_or_lt_of_le h1 with rfl|h1
    ·exact hb
    ·exact firstOf_none.1 h j (by omega) (by omega)
  ·intro h;rw [h i (Nat.le_refl _) (by omega)];exact firstOf_none.2 fun j h1 h2=>h j (by omega) (by omega)
theorem firstOf_some {ρ:Type}{B:Nat→Option ρ}{r:ρ}:∀ {k i:Nat},firstOf B k i=some r→∃ j,i≤j∧j<i+k∧B j=some r∧∀ q,i≤q→q<j→B q=none
 | 0,i,h=>by cases h
 | k+1,i,h=>by
  unfold firstOf at h
  split at h
  ·rename_i hb;cases h;exact ⟨i,Nat.le_refl _,by omega,hb,fun q h1 h2=>by omega⟩
  ·rename_i hb
   obtain ⟨j,h1,h2,h3,h4⟩:=firstOf_some h;exact ⟨j,by omega,by omega,h3,fun q q1 q2=>by
    rcases Nat.eq_or_lt_of_le q1 with rfl|q1
    ·exact hb
    ·exact h4 q (by omega) q2⟩
theorem scan {ρ:Type}(n:Nat)(L:Nat→Int→Option (Int ⊕ ρ))(B:Nat→Option ρ)
  (step:∀ m i,i<n→L (m+1) (i:Int)=match B i with|some r=>some (.inr r)|none=>L m ((i:Int)+1))
  (stop:∀ m,L (m+1) (n:Int)=some (.inl (n:Int))):∀ k i m,i+k=n→k<m→L m (i:Int)=some (match firstOf B k i with|some r=>.inr r|none=>.inl (n:Int)):=by
 intro k
 induction k with
 | zero =>
  intro i m hi hm;obtain ⟨m,rfl⟩:∃ q,m=q+1:=⟨m-1,by omega⟩
  have:i=n:=by omega
  subst this;exact stop m
 | succ k ih =>
  intro i m hi hm;obtain ⟨m,rfl⟩:∃ q,m=q+1:=⟨m-1,by omega⟩
  rw [step m i (by omega)];unfold firstOf
  cases B i with
  | some r=>rfl
  | none=>simpa using ih (i+1) m (by omega) (by omega)
theorem scanS {ρ τ:Type}(n:Nat)(L:Nat→τ×Int→Option ((τ×Int) ⊕ ρ))(B:τ→Nat→τ ⊕ ρ)
  (step:∀ m s i,i<n→L (m+1) (s,(i:Int))=match B s i with | .inr r=>some (.inr r) | .inl s'=>L m (s',(i:Int)+1))
  (stop:∀ m s,L (m+1) (s,(n:Int))=some (.inl (s,(n:Int)))) (I:Nat→τ→Prop) (hI:∀ s i,i<n→I i s→∀ s',B s i = .inl s'→I (i+1) s') :
  ∀ k i s m,i+k=n→k<m→I i s→(∃ s',L m (s,(i:Int))=some (.inl (s',(n:Int)))∧I n s')∨∃ r j s',L m (s,(i:Int))=some (.inr r)∧i≤j∧j<n∧I j s'∧B s' j = .inr r:=by
 intro k
 induction k with
 | zero =>
  intro i s m hi hm h;obtain ⟨m,rfl⟩:∃ q,m=q+1:=⟨m-1,by omega⟩
  have:i=n:=by omega
  subst this;exact .inl ⟨s,stop m s,h⟩
 | succ k ih =>
  intro i s m hi hm h;obtain ⟨m,rfl⟩:∃ q,m=q+1:=⟨m-1,by omega⟩
  rw [step m s i (by omega)]
  cases hb:B s i with
  | inr r=>exact .inr ⟨r,i,s,rfl,Nat.le_refl _,by omega,h,hb⟩
  | inl s' =>
   rcases ih (i+1) s' m (by omega) (by omega) (hI s i (by omega) h s' hb) with ⟨s2,h1,h2⟩|⟨r,j,s2,h1,h2,h3,h4,h5⟩
   ·exact .inl ⟨s2,by simpa using h1,h2⟩
   ·exact .inr ⟨r,j,s2,by simpa using h1,by omega,h3,h4,h5⟩
set_option maxRecDepth 100000
theorem letter_some (K:Nat)(c:Int):∃ b,rc K c=some b:=by
 unfold rc
 repeat' split
 all_goals exact ⟨_,rfl⟩
theorem more_some (K:Nat)(c:Int):∃ b,be K c=some b:=by
 obtain ⟨b,hb⟩:=letter_some K c;unfold be;rw [hb,Option.bind_some]
 repeat' split
 all_goals exact ⟨_,rfl⟩
theorem lexName_some (K:Nat)(hK:1000≤K)(s:ByteArray):∃ b,wa K s=some b:=by
 unfold wa
 by_cases h1:s=(⟨#[]⟩:ByteArray)
 ·rw [if_pos h1];exact ⟨_,rfl⟩
 rw [if_neg h1]
 by_cases h2:32<(s.size:Int)
 ·rw [if_pos h2];exact ⟨_,rfl⟩
 rw [if_neg h2]
 split
 ·exact ⟨_,rfl⟩
 have h0:0<(s.size:Int):=by
  rcases Nat.eq_zero_or_pos s.size with h|h
  ·exfalso;apply h1;apply ByteArray.ext;exact Array.eq_empty_of_size_eq_zero h
  ·omega
 rw [if_pos h0];obtain ⟨b,hb⟩:=letter_some K (bt s 0);rw [hb,Option.bind_some]
 split
 ·exact ⟨_,rfl⟩
 have:=scan s.size (wa.l0 K s) (fun i=>if (!((be K (bt s (i:Int))).getD false))=true then some false else none) (fun m i hi=>by
  obtain ⟨q,hq⟩:=more_some K (bt s (i:Int));simp only [wa.l0];rw [if_pos (by omega),if_pos (Int.natCast_nonneg i),hq,Option.bind_some,Option.getD_some,wr (a:=(i:Int)+1) (by omega) (by omega)];cases q <;> rfl) (fun m=>by simp only [wa.l0];rw [if_neg (by omega)]) s.size 0 K (by omega) (by omega)
 rw [show ((0:Nat):Int)=0 from rfl] at this;rw [this]
 split <;> exact ⟨_,rfl⟩
theorem names_some (K:Nat)(hK:1000≤K)(ns:List ByteArray):∃ b,L9 K ns=some b:=by
 unfold L9
 split
 ·exact ⟨_,rfl⟩
 split
 ·exact ⟨_,rfl⟩
 have hex:∀ i:Int,∃ b,wa K (rd ns i)=some b:=fun i=>lexName_some K hK _
 have hs:=scanS ns.length (L9.l0 K ns) (fun es i=>if (!((wa K (rd ns (i:Int))).getD false))=true then .inr false else if (mgetD false es (rd ns (i:Int)))=true then .inr false else .inl (mput es (rd ns (i:Int)) true)) (fun m s i hi=>by
  obtain ⟨b,hb⟩:=hex i;simp only [L9.l0];rw [if_pos (by omega),if_pos (Int.natCast_nonneg i),hb,Option.bind_some,Option.getD_some,wr (a:=(i:Int)+1) (by omega) (by omega)];cases b
  ·rfl
  ·simp only [Bool.not_true,Bool.false_eq_true,if_false]
   split <;> rfl) (fun m s=>by simp only [L9.l0];rw [if_neg (by omega)]) (fun _ _=>True) (fun _ _ _ _ _ _=>trivial) ns.length 0 [] K (by omega) (by omega) trivial
 rw [show ((0:Nat):Int)=0 from rfl] at hs;rcases hs with ⟨s',h,_⟩|⟨r,j,s',h,_⟩ <;> rw [h] <;> exact ⟨_,rfl⟩
theorem symbol_some (K:Nat)(s:Symbol)(n:Int):∃ b,Wb K s n=some b:=by
 unfold Wb
 repeat' split
 all_goals exact ⟨_,rfl⟩
def RuleBd (r:Rule):Prop:=r.Conj.length≤8∧∀ c ∈ r.Conj,c.Seq.length≤64
theorem rule_some (K:Nat)(hK:1000≤K)(r:Rule)(n:Int):∃ q,f7 K r n=some q∧0≤q.1∧q.1≤512∧(q.2=true→RuleBd r):=by
 unfold f7
 split
 ·exact ⟨_,rfl,by decide,by decide,fun h=>by cases h⟩
 split
 ·exact ⟨_,rfl,by decide,by decide,fun h=>by cases h⟩
 have hin:∀ i:Int,(rd r.Conj i).Seq.length≤64→∃ q,f7.l1 K r n i K 0=some q∧(q = .inl ((rd r.Conj i).Seq.length:Int)∨q = .inr (.inr (0,false))):=fun i hi=>by
  have:=scan (rd r.Conj i).Seq.length (f7.l1 K r n i) (fun j=>if (!((Wb K (⟨(rd ((rd r.Conj i).Seq) (j:Int)).Name,(rd ((rd r.Conj i).Seq) (j:Int)).Lo,(rd ((rd r.Conj i).Seq) (j:Int)).Hi⟩:Symbol) n).getD false))=true then some (.inr (0,false)) else none) (fun m j hj=>by
   obtain ⟨b,hb⟩:=symbol_some K (⟨(rd ((rd r.Conj i).Seq) (j:Int)).Name,(rd ((rd r.Conj i).Seq) (j:Int)).Lo,(rd ((rd r.Conj i).Seq) (j:Int)).Hi⟩:Symbol) n;simp only [f7.l1];rw [if_pos (by omega),if_pos (Int.natCast_nonneg j),hb,Option.bind_some,Option.getD_some,wr (a:=(j:Int)+1) (by omega) (by omega)];cases b <;> rfl) (fun m=>by simp only [f7.l1];rw [if_neg (by omega)]) (rd r.Conj i).Seq.length 0 K (by omega) (by omega)
  rw [show ((0:Nat):Int)=0 from rfl] at this;rw [this]
  split
  ·rename_i hq
   obtain ⟨j,_,_,h3,_⟩:=firstOf_some hq
   split at h3
   ·cases h3;exact ⟨_,rfl,.inr rfl⟩
   ·cases h3
  ·exact ⟨_,rfl,.inl rfl⟩
 have hs:=scanS r.Conj.length (f7.l0 K r n) (fun s i=>if 64<(((rd r.Conj (i:Int)).Seq).length:Int) then .inr (0,false) else match f7.l1 K r n (i:Int) K 0 with|some (.inl _)=>.inl (IntKind.wrap .i64 (s+(((rd r.Conj (i:Int)).Seq).length:Int)))|_=>.inr (0,false)) (fun m s i hi=>by
  simp only [f7.l0];rw [if_pos (by omega),if_pos (Int.natCast_nonneg i),wr (a:=(i:Int)+1) (by omega) (by omega)]
  split
  ·rfl
  ·rename_i h64
   obtain ⟨q,h1,h2⟩:=hin i (by omega);rw [h1];rcases h2 with rfl|rfl <;> rfl) (fun m s=>by simp only [f7.l0];rw [if_neg (by omega)])
  (fun i s=>0≤s∧s≤64*i∧∀ j:Nat,j<i→(rd r.Conj (j:Int)).Seq.length≤64) (fun s i hi hI s' h=>by
   split at h
   ·cases h
   ·rename_i h64
    obtain ⟨q,h1,h2⟩:=hin i (by omega);rw [h1] at h;rcases h2 with rfl|rfl
    ·simp only [Sum.inl.injEq] at h;rw [wr (by omega) (by omega)] at h;subst h;refine ⟨by omega,by push_cast;omega,fun j hj=>?_⟩;rcases Nat.lt_succ_iff_lt_or_eq.1 hj with hj|rfl
     ·exact hI.2.2 j hj
     ·omega
    ·cases h) r.Conj.length 0 0 K (by omega) (by omega) ⟨by omega,by omega,fun j hj=>by omega⟩
 rw [show ((0:Nat):Int)=0 from rfl] at hs;rcases hs with ⟨s',h,h1,h2,h3⟩|⟨q,j,s',h,_,hj,_,hq⟩
 ·rw [h];refine ⟨_,rfl,h1,by omega,fun _=>⟨by omega,fun c hc=>?_⟩⟩;obtain ⟨j,hj,rfl⟩:=List.getElem_of_mem hc;have:=h3 j hj
  rwa [rd_nat,List.getD_eq_getElem?_getD,List.getElem?_eq_getElem hj] at this
 ·rw [h];have:q=(0,false):=by
   split at hq
   ·cases hq;rfl
   ·split at hq
    ·cases hq
    ·cases hq;rfl
  subst this;exact ⟨_,rfl,by decide,by decide,fun h=>by cases h⟩
def Bd (g:Grammar):Prop:=g.Rules.length≤256∧∀ r ∈ g.Rules,RuleBd r
theorem May_some (K:Nat)(hK:1000≤K)(g:Grammar):∃ b,y8 K g=some b∧(b=true→Bd g):=by
 unfold y8;obtain ⟨b,hb⟩:=names_some K hK g.Names;rw [hb,Option.bind_some]
 split
 ·exact ⟨_,rfl,fun h=>by cases h⟩
 split
 ·exact ⟨_,rfl,fun h=>by cases h⟩
 split
 ·exact ⟨_,rfl,fun h=>by cases h⟩
 split
 ·exact ⟨_,rfl,fun h=>by cases h⟩
 split
 ·exact ⟨_,rfl,fun h=>by cases h⟩
 have hex:∀ i:Int,∃ q,f7 K (rd g.Rules i) (g.Names.length:Int)=some q∧0≤q.1∧q.1≤512∧(q.2=true→RuleBd (rd g.Rules i)):=fun i=>rule_some K hK _ _
 have hs:=scanS (τ:=Int×Int) g.Rules.length (fun m s=>(y8.l0 K g m (s.1.1,s.1.2,s.2)).map fun | .inl (a,b,c)=>.inl ((a,b),c) | .inr r=>.inr r)
  (fun s i=>match f7 K (rd g.Rules (i:Int)) (g.Names.length:Int) with
   | some q=>if (!q.2)=true then .inr false else if (rd g.Rules (i:Int)).Head<s.1 then .inr false else if IntKind.wrap .i64 (s.1+1)<(rd g.Rules (i:Int)).Head then .inr false else if 1024<IntKind.wrap .i64 (s.2+q.1) then .inr false else .inl ((rd g.Rules (i:Int)).Head,IntKind.wrap .i64 (s.2+q.1))
   | none=>.inr false) (fun m s i hi=>by
  obtain ⟨q,h1,h2,h3,h4⟩:=hex i;simp only [y8.l0];rw [if_pos (by omega),if_pos (Int.natCast_nonneg i),h1,Option.bind_some,wr (a:=(i:Int)+1) (by omega) (by omega)];simp only
  split
  ·rfl
  split
  ·rfl
  split
  ·rfl
  split
  ·rfl
  rfl) (fun m s=>by simp only [y8.l0];rw [if_neg (by omega)];rfl)
  (fun i s=>∀ j:Nat,j<i→RuleBd (rd g.Rules (j:Int))) (fun s i hi hI s' h=>by
   obtain ⟨q,h1,h2,h3,h4⟩:=hex i;rw [h1] at h;simp only at h
   split at h
   ·cases h
   ·rename_i hq
    intro j hj;rcases Nat.lt_succ_iff_lt_or_eq.1 hj with hj|rfl
    ·exact hI j hj
    ·exact h4 (by cases hq2:q.2 <;> simp_all)) g.Rules.length 0 (-1,0) K (by omega) (by omega) (fun j hj=>by omega)
 simp only [show ((0:Nat):Int)=0 from rfl] at hs;have hfin:∀ r,(y8.l0 K g K (-1,0,0)).map (fun | .inl (a,b,c)=>(.inl ((a,b),c):((Int×Int)×Int) ⊕ Bool) | .inr r=>.inr r)=some r→(∃ a b c,y8.l0 K g K (-1,0,0)=some (.inl (a,b,c))∧r = .inl ((a,b),c))∨∃ q,y8.l0 K g K (-1,0,0)=some (.inr q)∧r = .inr q:=by
  intro r h
  cases hl:y8.l0 K g K (-1,0,0) with
  | none=>rw [hl] at h;cases h
  | some x =>
   rw [hl] at h
   cases x with
   | inl x=>obtain ⟨a,b,c⟩:=x;cases h;exact .inl ⟨a,b,c,rfl,rfl⟩
   | inr q=>cases h;exact .inr ⟨q,rfl,rfl⟩
 have hpos:0<(g.Rules.length:Int):=by omega
 rcases hs with ⟨s',h,h3⟩|⟨q,j,s',h,_,hj,_,hq⟩
 ·rcases hfin _ h with ⟨a,b,c,h1,h2⟩|⟨q,h1,h2⟩
  ·rw [h1];simp only [brk,Option.bind_some];rw [if_pos hpos];have hbd:Bd g:=⟨by omega,fun r hr=>by
    obtain ⟨j,hj,rfl⟩:=List.getElem_of_mem hr;have:=h3 j hj
    rwa [rd_nat,List.getD_eq_getElem?_getD,List.getElem?_eq_getElem hj] at this⟩
   split
   ·exact ⟨_,rfl,fun _=>hbd⟩
   ·exact ⟨_,rfl,fun h=>by cases h⟩
  ·cases h2
 ·rcases hfin _ h with ⟨a,b,c,h1,h2⟩|⟨q',h1,h2⟩
  ·cases h2
  ·cases h2;rw [h1];refine ⟨q,rfl,fun hqt=>?_⟩;subst hqt;obtain ⟨q',g1,g2,g3,g4⟩:=hex j;rw [g1] at hq;simp only at hq
   repeat' split at hq
   all_goals cases hq
section
open S Go.Sort
set_option maxRecDepth 100000
theorem foldLoop {τ α:Type}[Inhabited α](xs:List α)(L:Nat→τ×Int→Option (τ×Int))(f:τ→α→τ)(step:∀ m s i,i<xs.length→L (m+1) (s,(i:Int))=L m (f s (rd xs (i:Int)),(i:Int)+1))
  (stop:∀ m s,L (m+1) (s,(xs.length:Int))=some (s,(xs.length:Int))) (m:Nat) (hm:xs.length<m) (s:τ):L m (s,0)=some (xs.foldl f s,(xs.length:Int)):=by
 have key:∀ k i s m,i+k=xs.length→k<m→L m (s,(i:Int))=some ((xs.drop i).foldl f s,(xs.length:Int)):=by
  intro k
  induction k with
  | zero =>
   intro i s m hi hm;obtain ⟨m,rfl⟩:∃ q,m=q+1:=⟨m-1,by omega⟩
   have:i=xs.length:=by omega
   subst this;rw [stop,List.drop_length];rfl
  | succ k ih =>
   intro i s m hi hm;obtain ⟨m,rfl⟩:∃ q,m=q+1:=⟨m-1,by omega⟩
   have hil:i<xs.length:=by omega
   rw [step m s i hil,List.drop_eq_getElem_cons hil,List.foldl_cons];have e:rd xs (i:Int)=xs[i]:=by rw [rd_nat,List.getD_eq_getElem?_getD,List.getElem?_eq_getElem hil];rfl
   rw [e];simpa using ih (i+1) (f s xs[i]) m (by omega) (by omega)
 simpa using key xs.length 0 s m (by omega) hm
def eOf (r:Rule)(c:Conjunct)(s:Symbol):Edge:=⟨r.Head,s.Name,c.Neg⟩
def addS (r:Rule)(c:Conjunct)(es:List (Edge×Bool))(s:Symbol):List (Edge×Bool):=if 0≤s.Name then mput es (eOf r c s) true else es
def addC (r:Rule)(es:List (Edge×Bool))(c:Conjunct):List (Edge×Bool):=c.Seq.foldl (addS r c) es
def addR (es:List (Edge×Bool))(r:Rule):List (Edge×Bool):=r.Conj.foldl (addC r) es
def mapOf (g:Grammar):List (Edge×Bool):=g.Rules.foldl addR []
def keysOf (g:Grammar):List Edge:=(mapOf g).map (·.1)
def edgesOf (g:Grammar):List Edge:=sortL rowC (keysOf g)
theorem edges_l2 (K:Nat)(hK:200000≤K)(g:Grammar)(i j:Int)(h:(rd (rd g.Rules i).Conj j).Seq.length≤64)(es:List (Edge×Bool)) :
  L6.l2 K g i j K (es,0)=some ((rd (rd g.Rules i).Conj j).Seq.foldl (addS (rd g.Rules i) (rd (rd g.Rules i).Conj j)) es,((rd (rd g.Rules i).Conj j).Seq.length:Int)) :=
 foldLoop _ (L6.l2 K g i j) _ (fun m s k hk=>by
  simp only [L6.l2,addS,eOf];rw [if_pos (by omega),if_pos (Int.natCast_nonneg k),wr (a:=(k:Int)+1) (by omega) (by omega)]
  split <;> rfl) (fun m s=>by simp only [L6.l2];rw [if_neg (by omega)]) K (by omega) es
theorem edges_l1 (K:Nat)(hK:200000≤K)(g:Grammar)(i:Int)(h:RuleBd (rd g.Rules i))(es:List (Edge×Bool)) :
  L6.l1 K g i K (es,0)=some ((rd g.Rules i).Conj.foldl (addC (rd g.Rules i)) es,((rd g.Rules i).Conj.length:Int)):=by
 have h8:=h.1;exact foldLoop _ (L6.l1 K g i) _ (fun m s k hk=>by
  have hc:(rd (rd g.Rules i).Conj (k:Int)).Seq.length≤64:=h.2 _ (rd_mem (Int.natCast_nonneg k) (by omega));simp only [L6.l1];rw [if_pos (by omega),if_pos (Int.natCast_nonneg k),edges_l2 K hK g i k hc,Option.bind_some,wr (a:=(k:Int)+1) (by omega) (by omega)];rfl) (fun m s=>by simp only [L6.l1];rw [if_neg (by omega)]) K (by omega) es
theorem edges_l0 (K:Nat)(hK:200000≤K)(g:Grammar)(h:Bd g):L6.l0 K g K ([],0)=some (mapOf g,(g.Rules.length:Int)):=by
 have h256:=h.1;exact foldLoop _ (L6.l0 K g) _ (fun m s k hk=>by
  have hr:RuleBd (rd g.Rules (k:Int)):=h.2 _ (rd_mem (Int.natCast_nonneg k) (by omega));simp only [L6.l0];rw [if_pos (by omega),if_pos (Int.natCast_nonneg k),edges_l1 K hK g k hr,Option.bind_some,wr (a:=(k:Int)+1) (by omega) (by omega)];rfl) (fun m s=>by simp only [L6.l0];rw [if_neg (by omega)]) K (by omega) []
end
section
open S Go.Sort
set_option maxRecDepth 100000
theorem mput_keys {κ ν:Type}[DecidableEq κ]{es:List (κ×ν)}{k:κ}{v:ν}:∀ e,e ∈ (mput es k v).map (·.1)↔e ∈ es.map (·.1)∨e=k:=by
 induction es with
 | nil=>intro e;simp [mput]
 | cons p es ih =>
  intro e;rw [mput]
  split
  ·rename_i h;subst h;simp only [List.map_cons,List.mem_cons]
   constructor
   ·rintro (h|h)
    ·exact .inl (.inl h)
    ·exact .inl (.inr h)
   ·rintro ((h|h)|h)
    ·exact .inl h
    ·exact .inr h
    ·exact .inl h
  ·simp only [List.map_cons,List.mem_cons,ih e];constructor
   ·rintro (h|h|h)
    ·exact .inl (.inl h)
    ·exact .inl (.inr h)
    ·exact .inr h
   ·rintro ((h|h)|h)
    ·exact .inl h
    ·exact .inr (.inl h)
    ·exact .inr (.inr h)
theorem mput_nodup {κ ν:Type}[DecidableEq κ]{es:List (κ×ν)}{k:κ}{v:ν}(h:(es.map (·.1)).Nodup):((mput es k v).map (·.1)).Nodup:=by
 induction es with
 | nil=>simp [mput]
 | cons p es ih =>
  rw [List.map_cons,List.nodup_cons] at h;rw [mput]
  split
  ·rename_i hp;subst hp;simp only [List.map_cons,List.nodup_cons];exact h
  ·rename_i hp
   simp only [List.map_cons,List.nodup_cons];refine ⟨fun hm=>?_,ih h.2⟩;rcases (mput_keys _).1 hm with hm|hm
   ·exact h.1 hm
   ·exact hp hm
theorem mput_len {κ ν:Type}[DecidableEq κ]{es:List (κ×ν)}{k:κ}{v:ν}:(mput es k v).length≤es.length+1:=by
 induction es with
 | nil=>simp [mput]
 | cons p es ih=>rw [mput];split <;> simp <;> omega
theorem fold_mem {τ α:Type}(f:τ→α→τ)(In:τ→Edge→Prop)(Oc:α→Edge→Prop)(h:∀ s a e,In (f s a) e↔In s e∨Oc a e):∀ (xs:List α) (s:τ) e,In (xs.foldl f s) e↔In s e∨∃ a ∈ xs,Oc a e
 | [],s,e=>by simp
 | x::xs,s,e=>by
  rw [List.foldl_cons,fold_mem f In Oc h xs,h];simp only [List.mem_cons,exists_eq_or_imp,or_assoc]
theorem fold_inv {τ α:Type}(f:τ→α→τ)(I:τ→Prop)(h:∀ s a,I s→I (f s a)):∀ (xs:List α) (s:τ),I s→I (xs.foldl f s)
 | [],s,hs=>hs
 | x::xs,s,hs=>fold_inv f I h xs _ (h s x hs)
theorem fold_len {τ α:Type}(f:τ→α→τ)(μ:τ→Nat)(B:Nat):∀ (xs:List α) (s:τ),(∀ s,∀ a ∈ xs,μ (f s a)≤μ s+B)→μ (xs.foldl f s)≤μ s+xs.length*B
 | [],s,_=>by simp
 | x::xs,s,h=>by
  have h1:=h s x (.head _);have h2:=fold_len f μ B xs (f s x) (fun s a ha=>h s a (.tail _ ha));rw [List.foldl_cons,List.length_cons,Nat.add_mul];omega
def OccS (r:Rule)(c:Conjunct)(s:Symbol)(e:Edge):Prop:=0≤s.Name∧e=eOf r c s
def OccC (r:Rule)(c:Conjunct)(e:Edge):Prop:=∃ s ∈ c.Seq,OccS r c s e
def OccR (r:Rule)(e:Edge):Prop:=∃ c ∈ r.Conj,OccC r c e
def Occ (g:Grammar)(e:Edge):Prop:=∃ r ∈ g.Rules,OccR r e
def InM (es:List (Edge×Bool))(e:Edge):Prop:=e ∈ es.map (·.1)
theorem keys_occ (g:Grammar)(e:Edge):e ∈ keysOf g↔Occ g e:=by
 have h1:∀ r c es s e,InM (addS r c es s) e↔InM es e∨OccS r c s e:=fun r c es s e=>by
  unfold addS OccS InM
  split
  ·rename_i h;rw [mput_keys];simp [h]
  ·rename_i h;simp [h]
 have h2:∀ r es c e,InM (addC r es c) e↔InM es e∨OccC r c e:=fun r es c e=>fold_mem _ InM (OccS r c) (h1 r c) _ _ _
 have h3:∀ es r e,InM (addR es r) e↔InM es e∨OccR r e:=fun es r e=>fold_mem _ InM (OccC r) (h2 r) _ _ _
 have:=fold_mem addR InM OccR h3 g.Rules [] e;unfold keysOf mapOf Occ;exact this.trans (by simp [InM])
theorem keys_nodup (g:Grammar):(keysOf g).Nodup:=by
 have h1:∀ r c es s,(List.map Prod.fst es).Nodup→(List.map Prod.fst (addS r c es s)).Nodup:=fun r c es s h=>by
  unfold addS
  split
  ·exact mput_nodup h
  ·exact h
 unfold keysOf mapOf;exact fold_inv addR (fun es=>(List.map Prod.fst es).Nodup) (fun es r h=>fold_inv (addC r) (fun es=>(List.map Prod.fst es).Nodup) (fun es c h=>fold_inv (addS r c) (fun es=>(List.map Prod.fst es).Nodup) (h1 r c) _ _ h) _ _ h) _ _ (by simp)
theorem map_len (g:Grammar)(h:Bd g):(mapOf g).length≤131072:=by
 have h1:∀ r c es s,(addS r c es s).length≤es.length+1:=fun r c es s=>by
  unfold addS
  split
  ·exact mput_len
  ·omega
 have h2:∀ r,RuleBd r→∀ es,∀ c ∈ r.Conj,(addC r es c).length≤es.length+64:=fun r hr es c hc=>by
  have:=fold_len (addS r c) List.length 1 c.Seq es (fun s a _=>h1 r c s a);have:=hr.2 c hc;unfold addC;omega
 have h3:∀ es,∀ r ∈ g.Rules,(addR es r).length≤es.length+512:=fun es r hr=>by
  have hb:=h.2 r hr;have:=fold_len (addC r) List.length 64 r.Conj es (fun s a ha=>h2 r hb s a ha);have:=hb.1;unfold addR;omega
 have:=fold_len addR List.length 512 g.Rules [] h3;have:=h.1;unfold mapOf;simp at *;omega
theorem edges_perm (g:Grammar):(edgesOf g).Perm (keysOf g):=List.mergeSort_perm _ _
theorem mem_edges (g:Grammar)(e:Edge):e ∈ edgesOf g↔Occ g e:=by rw [(edges_perm g).mem_iff,keys_occ]
theorem edges_nodup (g:Grammar):(edgesOf g).Nodup:=(edges_perm g).nodup_iff.2 (keys_nodup g)
theorem edges_len (g:Grammar)(h:Bd g):(edgesOf g).length≤131072:=by
 rw [(edges_perm g).length_eq];unfold keysOf;rw [List.length_map];exact map_len g h
theorem Edges_spec (K:Nat)(hK:200000≤K)(g:Grammar):∃ b,y8 K g=some b∧(b=true→Bd g)∧L6 K g=some (if b=true then (edgesOf g,0) else ([],600)):=by
 obtain ⟨b,hb,hbd⟩:=May_some K (by omega) g;refine ⟨b,hb,hbd,?_⟩;unfold L6;rw [hb,Option.bind_some]
 cases b with
 | false=>rfl
 | true =>
  have h:=hbd rfl;have hl:=map_len g h;rw [if_neg (by decide),edges_l0 K hK g h,Option.bind_some];simp only;rw [if_pos (by omega),if_pos (by omega)];rfl
end
def runL {τ ρ α:Type}(B:τ→α→τ ⊕ ρ):τ→List α→τ ⊕ ρ
 | s,[]=>.inl s
 | s,x::xs=>match B s x with | .inl s'=>runL B s' xs | .inr r=>.inr r
theorem scanL {τ ρ α:Type}[Inhabited α](xs:List α)(L:Nat→τ×Int→Option ((τ×Int) ⊕ ρ))(B:τ→α→τ ⊕ ρ)(I:Nat→τ→Prop)
  (step:∀ m s i,i<xs.length→I i s→L (m+1) (s,(i:Int))=match B s (rd xs (i:Int)) with | .inr r=>some (.inr r) | .inl s'=>L m (s',(i:Int)+1))
  (stop:∀ m s,L (m+1) (s,(xs.length:Int))=some (.inl (s,(xs.length:Int)))) (hI:∀ s i,i<xs.length→I i s→∀ s',B s (rd xs (i:Int)) = .inl s'→I (i+1) s')
  (m:Nat) (hm:xs.length<m) (s:τ) (h0:I 0 s):L m (s,0)=some (match runL B s xs with | .inl s'=>.inl (s',(xs.length:Int)) | .inr r=>.inr r):=by
 have key:∀ k i s m,i+k=xs.length→k<m→I i s→L m (s,(i:Int))=some (match runL B s (xs.drop i) with | .inl s'=>.inl (s',(xs.length:Int)) | .inr r=>.inr r):=by
  intro k
  induction k with
  | zero =>
   intro i s m hi hm h;obtain ⟨m,rfl⟩:∃ q,m=q+1:=⟨m-1,by omega⟩
   have:i=xs.length:=by omega
   subst this;rw [stop,List.drop_length];rfl
  | succ k ih =>
   intro i s m hi hm h;obtain ⟨m,rfl⟩:∃ q,m=q+1:=⟨m-1,by omega⟩
   have hil:i<xs.length:=by omega
   have e:rd xs (i:Int)=xs[i]:=by rw [rd_nat,List.getD_eq_getElem?_getD,List.getElem?_eq_getElem hil];rfl
   have hn:=hI s i hil h;rw [step m s i hil h,List.drop_eq_getElem_cons hil,runL,← e]
   cases hb:B s (rd xs (i:Int)) with
   | inr r=>rfl
   | inl s'=>simpa using ih (i+1) s' m (by omega) (by omega) (hn s' hb)
 simpa using key xs.length 0 s m (by omega) hm h0
def letterP (c:Int):Prop:=(65≤c∧c≤90)∨(97≤c∧c≤122)∨c=95
def moreP (c:Int):Prop:=letterP c∨(48≤c∧c≤57)
def nameP (s:ByteArray):Prop:=1≤s.size∧s.size≤32∧s≠(⟨#[115,116,97,114,116]⟩:ByteArray)∧letterP (bt s 0)∧∀ i:Nat,i<s.size→moreP (bt s (i:Int))
theorem letter_spec (K:Nat)(c:Int):∃ b,rc K c=some b∧(b=true↔letterP c):=by
 unfold rc letterP
 repeat' split
 all_goals refine ⟨_,rfl,?_⟩
 all_goals first | simp only [true_iff,decide_eq_true_eq] | skip
 all_goals omega
theorem more_spec (K:Nat)(c:Int):∃ b,be K c=some b∧(b=true↔moreP c):=by
 obtain ⟨b,hb,hl⟩:=letter_spec K c;unfold be moreP;rw [hb,Option.bind_some]
 repeat' split
 all_goals refine ⟨_,rfl,?_⟩
 all_goals simp only [true_iff,decide_eq_true_eq,Bool.false_eq_true,false_iff] at *
 all_goals rw [← hl]
 all_goals simp_all
 all_goals omega
theorem ask_all {n K:Nat}{L:Nat→Int→Option (Int ⊕ Bool)}{p:Nat→Prop}(hn:n<K)(step:∀ m i,i<n→(p i∧L (m+1) (i:Int)=L m ((i:Int)+1))∨(¬ p i∧L (m+1) (i:Int)=some (.inr false)))
  (stop:∀ m,L (m+1) (n:Int)=some (.inl (n:Int))):(L K 0=some (.inl (n:Int))∧∀ i,i<n→p i)∨(L K 0=some (.inr false)∧¬ ∀ i,i<n→p i):=by
 have key:∀ k i m,i+k=n→k<m→(L m (i:Int)=some (.inl (n:Int))∧∀ j,i≤j→j<n→p j)∨(L m (i:Int)=some (.inr false)∧¬ ∀ j,i≤j→j<n→p j):=by
  intro k
  induction k with
  | zero =>
   intro i m hi hm;obtain ⟨m,rfl⟩:∃ q,m=q+1:=⟨m-1,by omega⟩
   have:i=n:=by omega
   subst this;exact .inl ⟨stop m,fun j h1 h2=>by omega⟩
  | succ k ih =>
   intro i m hi hm;obtain ⟨m,rfl⟩:∃ q,m=q+1:=⟨m-1,by omega⟩
   rcases step m i (by omega) with ⟨hp,he⟩|⟨hp,he⟩
   ·rw [he];have:=ih (i+1) m (by omega) (by omega);rw [show ((i+1:Nat):Int)=(i:Int)+1 by omega] at this;rcases this with ⟨h1,h2⟩|⟨h1,h2⟩
    ·refine .inl ⟨h1,fun j q1 q2=>?_⟩;rcases Nat.eq_or_lt_of_le q1 with rfl|q1
     ·exact hp
     ·exact h2 j q1 q2
    ·exact .inr ⟨h1,fun h=>h2 fun j q1 q2=>h j (by omega) q2⟩
   ·exact .inr ⟨he,fun h=>hp (h i (Nat.le_refl _) (by omega))⟩
 have:=key n 0 K (by omega) hn;rw [show ((0:Nat):Int)=0 from rfl] at this;rcases this with ⟨h1,h2⟩|⟨h1,h2⟩
 ·exact .inl ⟨h1,fun i hi=>h2 i (Nat.zero_le _) hi⟩
 ·exact .inr ⟨h1,fun h=>h2 fun j _ hj=>h j hj⟩
theorem lexName_spec (K:Nat)(hK:1000≤K)(s:ByteArray):∃ b,wa K s=some b∧(b=true↔nameP s):=by
 unfold wa nameP
 by_cases h1:s=(⟨#[]⟩:ByteArray)
 ·rw [if_pos h1];refine ⟨_,rfl,?_⟩;subst h1;simp only [Bool.false_eq_true,false_iff];exact fun h=>absurd h.1 (by decide)
 rw [if_neg h1]
 by_cases h2:32<(s.size:Int)
 ·rw [if_pos h2];exact ⟨_,rfl,by simp;omega⟩
 rw [if_neg h2];have h0:0<(s.size:Int):=by
  rcases Nat.eq_zero_or_pos s.size with h|h
  ·exfalso;apply h1;apply ByteArray.ext;exact Array.eq_empty_of_size_eq_zero h
  ·omega
 by_cases h3:s=(⟨#[115,116,97,114,116]⟩:ByteArray)
 ·rw [if_pos h3];exact ⟨_,rfl,by simp [h3]⟩
 rw [if_neg h3,if_pos h0];obtain ⟨b,hb,hl⟩:=letter_spec K (bt s 0);rw [hb,Option.bind_some]
 cases b with
 | false=>exact ⟨false,rfl,by simp only [Bool.false_eq_true,false_iff];exact fun h=>absurd (hl.2 h.2.2.2.1) (by decide)⟩
 | true =>
  rw [if_neg (by decide)];rcases ask_all (n:=s.size) (K:=K) (L:=wa.l0 K s) (p:=fun i=>moreP (bt s (i:Int))) (by omega) (fun m i hi=>by
   obtain ⟨q,hq,hm⟩:=more_spec K (bt s (i:Int));simp only [wa.l0];rw [if_pos (by omega),if_pos (Int.natCast_nonneg i),hq,Option.bind_some,wr (a:=(i:Int)+1) (by omega) (by omega)]
   cases q with
   | true=>exact .inl ⟨hm.1 rfl,rfl⟩
   | false=>exact .inr ⟨fun h=>absurd (hm.2 h) (by decide),rfl⟩) (fun m=>by simp only [wa.l0];rw [if_neg (by omega)]) with ⟨h4,h5⟩|⟨h4,h5⟩
  ·rw [h4];exact ⟨true,rfl,by simp only [true_iff];exact ⟨by omega,by omega,h3,hl.1 rfl,h5⟩⟩
  ·rw [h4];exact ⟨false,rfl,by simp only [Bool.false_eq_true,false_iff];exact fun h=>h5 h.2.2.2.2⟩
def namesP (ns:List ByteArray):Prop:=1≤ns.length∧ns.length≤64∧(∀ s ∈ ns,nameP s)∧ns.Nodup
theorem mget_cons {κ ν:Type}[DecidableEq κ]{p:κ×ν}{es:List (κ×ν)}{q:κ}:mget (p::es) q=if p.1=q then some p.2 else mget es q:=by
 unfold mget;rw [List.find?_cons]
 by_cases h:p.1=q <;> simp [h]
theorem mgetD_mput {κ:Type}[DecidableEq κ]{es:List (κ×Bool)}{k q:κ}:mgetD false (mput es k true) q=true↔q=k∨mgetD false es q=true:=by
 unfold mgetD
 induction es with
 | nil =>
  rw [mput,mget_cons]
  by_cases h:k=q
  ·simp [h]
  ·simp [h,Ne.symm h,mget]
 | cons p es ih =>
  rw [mput]
  split
  ·rename_i h
   rw [mget_cons,mget_cons,h]
   by_cases h2:k=q
   ·simp [h2]
   ·simp [h2,Ne.symm h2]
  ·rename_i h
   rw [mget_cons,mget_cons]
   by_cases h2:p.1=q
   ·simp only [if_pos h2,Option.getD_some];refine ⟨.inr,fun h3=>h3.elim (fun h4=>absurd (h2.trans h4) h) id⟩
   ·simp only [if_neg h2];exact ih
open Classical in
theorem names_run (es:List (ByteArray×Bool)):∀ ns:List ByteArray,((∃ es',runL (fun es s=>if nameP s then if mgetD false es s=true then .inr false else .inl (mput es s true) else .inr false) es ns = .inl es')∧(∀ s ∈ ns,nameP s)∧ns.Nodup∧∀ s ∈ ns,¬ mgetD false es s=true)∨(runL (fun es s=>if nameP s then if mgetD false es s=true then .inr false else .inl (mput es s true) else .inr false) es ns=(.inr false:List (ByteArray×Bool) ⊕ Bool)∧¬ ((∀ s ∈ ns,nameP s)∧ns.Nodup∧∀ s ∈ ns,¬ mgetD false es s=true))
 | []=>.inl ⟨⟨es,rfl⟩,by simp,List.nodup_nil,by simp⟩
 | s::ns=>by
  unfold runL
  by_cases h1:nameP s
  ·by_cases h2:mgetD false es s=true
   ·simp only [if_pos h1,if_pos h2];exact .inr ⟨trivial,fun h=>h.2.2 s (.head _) h2⟩
   ·simp only [if_pos h1,if_neg h2];have hm:∀ q,mgetD false (mput es s true) q=true↔q=s∨mgetD false es q=true:=fun q=>mgetD_mput
    rcases names_run (mput es s true) ns with ⟨h3,h4,h5,h6⟩|⟨h3,h4⟩
    ·refine .inl ⟨h3,fun q hq=>?_,List.nodup_cons.2 ⟨fun hs=>h6 s hs ((hm s).2 (.inl rfl)),h5⟩,fun q hq=>?_⟩
     ·rcases List.mem_cons.1 hq with rfl|hq
      ·exact h1
      ·exact h4 q hq
     ·rcases List.mem_cons.1 hq with rfl|hq
      ·exact h2
      ·exact fun h=>h6 q hq ((hm q).2 (.inr h))
    ·refine .inr ⟨h3,fun ⟨a1,a2,a3⟩=>h4 ⟨fun q hq=>a1 q (.tail _ hq),(List.nodup_cons.1 a2).2,fun q hq h=>?_⟩⟩;rcases (hm q).1 h with rfl|h
     ·exact (List.nodup_cons.1 a2).1 hq
     ·exact a3 q (.tail _ hq) h
  ·simp only [if_neg h1];exact .inr ⟨trivial,fun h=>h1 (h.1 s (.head _))⟩
open Classical in
theorem names_spec (K:Nat)(hK:1000≤K)(ns:List ByteArray):∃ b,L9 K ns=some b∧(b=true↔namesP ns):=by
 unfold L9 namesP
 split
 ·exact ⟨_,rfl,by simp;omega⟩
 split
 ·exact ⟨_,rfl,by simp;omega⟩
 rename_i h1 h2
 have hs:=scanL ns (L9.l0 K ns) (fun es s=>if nameP s then if mgetD false es s=true then .inr false else .inl (mput es s true) else .inr false) (fun _ _=>True) (fun m s i hi _=>by
  obtain ⟨b,hb,hp⟩:=lexName_spec K hK (rd ns (i:Int));simp only [L9.l0];rw [if_pos (by omega),if_pos (Int.natCast_nonneg i),hb,Option.bind_some,wr (a:=(i:Int)+1) (by omega) (by omega)]
  cases b with
  | false=>rw [if_pos (by decide),if_neg (fun h=>absurd (hp.2 h) (by decide))]
  | true =>
   rw [if_neg (by decide),if_pos (hp.1 rfl)]
   split <;> rfl) (fun m s=>by simp only [L9.l0];rw [if_neg (by omega)]) (fun _ _ _ _ _ _=>trivial) K (by omega) [] trivial
 rw [hs];rcases names_run [] ns with ⟨⟨es',h3⟩,h4,h5,h6⟩|⟨h3,h4⟩
 ·rw [h3];exact ⟨true,rfl,by simp only [true_iff];exact ⟨by omega,by omega,h4,h5⟩⟩
 ·rw [h3];exact ⟨false,rfl,by simp only [Bool.false_eq_true,false_iff];exact fun h=>h4 ⟨h.2.2.1,h.2.2.2,fun s _ h=>by simp [mgetD,mget] at h⟩⟩
theorem nodup_rd (ns:List ByteArray):ns.Nodup↔∀ i,i<ns.length→∀ j:Nat,j<i→rd ns (j:Int)≠rd ns (i:Int):=by
 have e:∀ i (h:i<ns.length),rd ns (i:Int)=ns[i]:=fun i h=>by rw [rd_nat,List.getD_eq_getElem?_getD,List.getElem?_eq_getElem h];rfl
 rw [List.Nodup,List.pairwise_iff_getElem];constructor
 ·intro h i hi j hj;rw [e i hi,e j (by omega)];exact h j i (by omega) hi hj
 ·intro h i j hi hj hij;have:=h j hj i hij
  rwa [e i hi,e j hj] at this
def symP (s:Symbol)(n:Int):Prop:=(s.Name = -1∧0≤s.Lo∧s.Lo≤s.Hi∧s.Hi≤255)∨(0≤s.Name∧s.Name<n∧s.Lo=0∧s.Hi=0)
theorem symbol_spec (K:Nat)(s:Symbol)(n:Int):∃ b,Wb K s n=some b∧(b=true↔symP s n):=by
 unfold Wb symP
 repeat' split
 all_goals refine ⟨_,rfl,?_⟩
 all_goals simp only [decide_eq_true_eq,Bool.false_eq_true,false_iff]
 all_goals omega
instance (s:Symbol) (n:Int):Decidable (symP s n):=by unfold symP;infer_instance
def conjP (n:Int)(c:Conjunct):Prop:=c.Seq.length≤64∧∀ s ∈ c.Seq,symP s n
instance (n:Int) (c:Conjunct):Decidable (conjP n c):=by unfold conjP;infer_instance
def ruleP (n:Int)(r:Rule):Prop:=1≤r.Conj.length∧r.Conj.length≤8∧∀ c ∈ r.Conj,conjP n c
instance (n:Int) (r:Rule):Decidable (ruleP n r):=by unfold ruleP;infer_instance
def sumC:List Conjunct→Nat
 | []=>0
 | c::cs=>c.Seq.length+sumC cs
def sumR (r:Rule):Nat:=sumC r.Conj
theorem all_rd {T:Type}[Inhabited T]{xs:List T}{p:T→Prop}:(∀ i,i<xs.length→p (rd xs (i:Int)))↔∀ x ∈ xs,p x:=by
 constructor
 ·intro h x hx;obtain ⟨i,hi,rfl⟩:=List.getElem_of_mem hx;have:=h i hi
  rwa [rd_nat,List.getD_eq_getElem?_getD,List.getElem?_eq_getElem hi] at this
 ·intro h i hi;exact h _ (rd_mem (Int.natCast_nonneg i) (by omega))
theorem ask_all2 {ρ:Type}{n K:Nat}{L:Nat→Int→Option (Int ⊕ ρ)}{p:Nat→Prop}{no:ρ}(hn:n<K)(step:∀ m i,i<n→(p i∧L (m+1) (i:Int)=L m ((i:Int)+1))∨(¬ p i∧L (m+1) (i:Int)=some (.inr no)))
  (stop:∀ m,L (m+1) (n:Int)=some (.inl (n:Int))):(L K 0=some (.inl (n:Int))∧∀ i,i<n→p i)∨(L K 0=some (.inr no)∧¬ ∀ i,i<n→p i):=by
 have key:∀ k i m,i+k=n→k<m→(L m (i:Int)=some (.inl (n:Int))∧∀ j,i≤j→j<n→p j)∨(L m (i:Int)=some (.inr no)∧¬ ∀ j,i≤j→j<n→p j):=by
  intro k
  induction k with
  | zero =>
   intro i m hi hm;obtain ⟨m,rfl⟩:∃ q,m=q+1:=⟨m-1,by omega⟩
   have:i=n:=by omega
   subst this;exact .inl ⟨stop m,fun j h1 h2=>by omega⟩
  | succ k ih =>
   intro i m hi hm;obtain ⟨m,rfl⟩:∃ q,m=q+1:=⟨m-1,by omega⟩
   rcases step m i (by omega) with ⟨hp,he⟩|⟨hp,he⟩
   ·rw [he];have:=ih (i+1) m (by omega) (by omega);rw [show ((i+1:Nat):Int)=(i:Int)+1 by omega] at this;rcases this with ⟨h1,h2⟩|⟨h1,h2⟩
    ·refine .inl ⟨h1,fun j q1 q2=>?_⟩;rcases Nat.eq_or_lt_of_le q1 with rfl|q1
     ·exact hp
     ·exact h2 j q1 q2
    ·exact .inr ⟨h1,fun h=>h2 fun j q1 q2=>h j (by omega) q2⟩
   ·exact .inr ⟨he,fun h=>hp (h i (Nat.le_refl _) (by omega))⟩
 have:=key n 0 K (by omega) hn;rw [show ((0:Nat):Int)=0 from rfl] at this;rcases this with ⟨h1,h2⟩|⟨h1,h2⟩
 ·exact .inl ⟨h1,fun i hi=>h2 i (Nat.zero_le _) hi⟩
 ·exact .inr ⟨h1,fun h=>h2 fun j _ hj=>h j hj⟩
def ruleB (n:Int)(s:Int)(c:Conjunct):Int ⊕ (Int×Bool):=if conjP n c then .inl (s+(c.Seq.length:Int)) else .inr (0,false)
theorem ruleB_run (n:Int):∀ (cs:List Conjunct) (s:Int),(runL (ruleB n) s cs = .inl (s+(sumC cs:Int))∧∀ c ∈ cs,conjP n c)∨(runL (ruleB n) s cs = .inr (0,false)∧¬ ∀ c ∈ cs,conjP n c)
 | [],s=>.inl ⟨by simp [runL,sumC],by simp⟩
 | c::cs,s=>by
  unfold runL ruleB
  by_cases h:conjP n c
  ·rw [if_pos h];rcases ruleB_run n cs (s+(c.Seq.length:Int)) with ⟨h1,h2⟩|⟨h1,h2⟩
   ·refine .inl ⟨?_,fun q hq=>?_⟩
    ·show runL (ruleB n) _ cs=_;rw [h1,sumC];push_cast;rw [Int.add_assoc]
    ·rcases List.mem_cons.1 hq with rfl|hq
     ·exact h
     ·exact h2 q hq
   ·exact .inr ⟨h1,fun h3=>h2 fun q hq=>h3 q (.tail _ hq)⟩
  ·rw [if_neg h];exact .inr ⟨rfl,fun h3=>h (h3 c (.head _))⟩
theorem sumC_le {n:Int}:∀ {cs:List Conjunct},(∀ c ∈ cs,conjP n c)→sumC cs≤64*cs.length
 | [],_=>by simp [sumC]
 | c::cs,h=>by
  have h1:=(h c (.head _)).1;have h2:=sumC_le (cs:=cs) fun q hq=>h q (.tail _ hq)
  rw [sumC,List.length_cons];omega
theorem rule_spec (K:Nat)(hK:1000≤K)(r:Rule)(n:Int):(f7 K r n=some ((sumR r:Int),true)∧ruleP n r)∨(∃ q,f7 K r n=some (q,false)∧¬ ruleP n r):=by
 unfold f7
 by_cases h1:(r.Conj.length:Int)<1
 ·rw [if_pos h1];exact .inr ⟨_,rfl,fun h=>by have:=h.1;omega⟩
 rw [if_neg h1]
 by_cases h2:8<(r.Conj.length:Int)
 ·rw [if_pos h2];exact .inr ⟨_,rfl,fun h=>by have:=h.2.1;omega⟩
 rw [if_neg h2];have hs:=scanL r.Conj (f7.l0 K r n) (ruleB n) (fun i s=>0≤s∧s≤64*i) (fun m s i hi hI=>by
  unfold ruleB;simp only [f7.l0];rw [if_pos (by omega),if_pos (Int.natCast_nonneg i),wr (a:=(i:Int)+1) (by omega) (by omega)]
  by_cases h64:64<((rd r.Conj (i:Int)).Seq.length:Int)
  ·rw [if_pos h64,if_neg (fun h=>by have:=h.1;omega)]
  rw [if_neg h64,wr (by omega) (by omega)];rcases ask_all2 (n:=(rd r.Conj (i:Int)).Seq.length) (K:=K) (L:=f7.l1 K r n i) (p:=fun j=>symP (rd (rd r.Conj (i:Int)).Seq (j:Int)) n) (by omega) (fun m j hj=>by
   obtain ⟨b,hb,hp⟩:=symbol_spec K (⟨(rd ((rd r.Conj (i:Int)).Seq) (j:Int)).Name,(rd ((rd r.Conj (i:Int)).Seq) (j:Int)).Lo,(rd ((rd r.Conj (i:Int)).Seq) (j:Int)).Hi⟩:Symbol) n;simp only [f7.l1];rw [if_pos (by omega),if_pos (Int.natCast_nonneg j),hb,Option.bind_some,wr (a:=(j:Int)+1) (by omega) (by omega)]
   cases b with
   | true=>exact .inl ⟨hp.1 rfl,rfl⟩
   | false=>exact .inr ⟨fun h=>absurd (hp.2 h) (by decide),rfl⟩) (fun m=>by simp only [f7.l1];rw [if_neg (by omega)]) with ⟨h4,h5⟩|⟨h4,h5⟩
  ·rw [h4,if_pos ⟨by omega,all_rd.1 h5⟩];rfl
  ·rw [h4,if_neg (fun h=>h5 (all_rd.2 h.2))];rfl) (fun m s=>by simp only [f7.l0];rw [if_neg (by omega)]) (fun s i hi hI s' h=>by
   unfold ruleB at h
   split at h
   ·rename_i hc
    cases h;have:=hc.1;exact ⟨by omega,by push_cast;omega⟩
   ·cases h) K (by omega) 0 ⟨by omega,by omega⟩
 rw [hs];rcases ruleB_run n r.Conj 0 with ⟨h4,h5⟩|⟨h4,h5⟩
 ·rw [h4];exact .inl ⟨by simp only [brk,Option.bind_some,Int.zero_add];rfl,by omega,by omega,h5⟩
 ·rw [h4];exact .inr ⟨0,rfl,fun h=>h5 h.2.2⟩
def chainP (n:Int):Int→List Rule→Prop
 | h,[]=>h=n-1
 | h,r::rs=>ruleP n r∧(r.Head=h∨r.Head=h+1)∧chainP n r.Head rs
def total:List Rule→Nat
 | []=>0
 | r::rs=>sumR r+total rs
def mayP (g:Grammar):Prop:=namesP g.Names∧0≤g.Start∧g.Start<(g.Names.length:Int)∧1≤g.Rules.length∧g.Rules.length≤256∧(rd g.Rules 0).Head=0∧chainP (g.Names.length:Int) (-1) g.Rules∧total g.Rules≤1024
def gB (n:Int)(s:Int×Int)(r:Rule):(Int×Int) ⊕ Bool:=if ruleP n r then if r.Head<s.1 then .inr false else if s.1+1<r.Head then .inr false else if 1024<s.2+(sumR r:Int) then .inr false else .inl (r.Head,s.2+(sumR r:Int)) else .inr false
theorem gB_run (n:Int):∀ (rs:List Rule) (s:Int×Int),s.2≤1024→((∃ s',runL (gB n) s rs = .inl s'∧(s'.1=n-1↔chainP n s.1 rs))∧s.2+(total rs:Int)≤1024)∨(runL (gB n) s rs = .inr false∧¬ (chainP n s.1 rs∧s.2+(total rs:Int)≤1024))
 | [],s,hs=>.inl ⟨⟨s,rfl,Iff.rfl⟩,by simp [total];omega⟩
 | r::rs,s,hs=>by
  unfold runL gB chainP total
  by_cases h1:ruleP n r
  ·rw [if_pos h1]
   by_cases h2:r.Head<s.1
   ·rw [if_pos h2];exact .inr ⟨rfl,fun h=>by have:=h.1.2.1;omega⟩
   rw [if_neg h2]
   by_cases h3:s.1+1<r.Head
   ·rw [if_pos h3];exact .inr ⟨rfl,fun h=>by have:=h.1.2.1;omega⟩
   rw [if_neg h3]
   by_cases h4:1024<s.2+(sumR r:Int)
   ·rw [if_pos h4];exact .inr ⟨rfl,fun h=>by have:=h.2;push_cast at this;omega⟩
   rw [if_neg h4];rcases gB_run n rs (r.Head,s.2+(sumR r:Int)) (by simp only;omega) with ⟨⟨s',h5,h6⟩,h7⟩|⟨h5,h6⟩
   ·refine .inl ⟨⟨s',h5,h6.trans ⟨fun h=>⟨h1,by omega,h⟩,fun h=>h.2.2⟩⟩,?_⟩;simp only at h7;push_cast;omega
   ·refine .inr ⟨h5,fun h=>h6 ⟨h.1.2.2,?_⟩⟩;have:=h.2;push_cast at this;simp only;omega
  ·rw [if_neg h1];exact .inr ⟨rfl,fun h=>h1 h.1.1⟩
theorem sumR_le {n:Int}{r:Rule}(h:ruleP n r):sumR r≤512:=by
 have:=sumC_le h.2.2;have:=h.2.1;unfold sumR;omega
theorem gMay_spec (K:Nat)(hK:1000≤K)(g:Grammar):∃ b,y8 K g=some b∧(b=true↔mayP g):=by
 unfold y8 mayP;obtain ⟨b,hb,hn⟩:=names_spec K hK g.Names;rw [hb,Option.bind_some]
 cases b with
 | false=>exact ⟨_,rfl,by simp only [Bool.false_eq_true,false_iff];exact fun h=>absurd (hn.2 h.1) (by decide)⟩
 | true =>
 rw [if_neg (by decide)];have hnm:=hn.1 rfl
 by_cases h1:g.Start<0
 ·rw [if_pos h1];exact ⟨_,rfl,by simp only [Bool.false_eq_true,false_iff];exact fun h=>by have:=h.2.1;omega⟩
 rw [if_neg h1]
 by_cases h2:(g.Names.length:Int)≤g.Start
 ·rw [if_pos h2];exact ⟨_,rfl,by simp only [Bool.false_eq_true,false_iff];exact fun h=>by have:=h.2.2.1;omega⟩
 rw [if_neg h2]
 by_cases h3:(g.Rules.length:Int)<1
 ·rw [if_pos h3];exact ⟨_,rfl,by simp only [Bool.false_eq_true,false_iff];exact fun h=>by have:=h.2.2.2.1;omega⟩
 rw [if_neg h3]
 by_cases h4:256<(g.Rules.length:Int)
 ·rw [if_pos h4];exact ⟨_,rfl,by simp only [Bool.false_eq_true,false_iff];exact fun h=>by have:=h.2.2.2.2.1;omega⟩
 rw [if_neg h4];have hs:=scanL (τ:=Int×Int) (ρ:=Bool) g.Rules (fun m s=>(y8.l0 K g m (s.1.1,s.1.2,s.2)).map fun | .inl (a,b,c)=>.inl ((a,b),c) | .inr r=>.inr r) (gB (g.Names.length:Int)) (fun i s=>-1≤s.1∧s.1≤i∧0≤s.2∧s.2≤1024) (fun m s i hi hI=>by
  unfold gB;simp only [y8.l0];rw [if_pos (by omega),if_pos (Int.natCast_nonneg i),wr (a:=(i:Int)+1) (by omega) (by omega)];rcases rule_spec K hK (rd g.Rules (i:Int)) (g.Names.length:Int) with ⟨h5,h6⟩|⟨q,h5,h6⟩
  ·have:=sumR_le h6;rw [h5,Option.bind_some,if_pos h6];simp only [Bool.not_true,Bool.false_eq_true,if_false];rw [wr (a:=s.1+1) (by omega) (by omega),wr (a:=s.2+(sumR (rd g.Rules (i:Int)):Int)) (by omega) (by omega)]
   repeat' split
   all_goals first | rfl | (rename_i h;cases h;done) | skip
   all_goals (rename_i h;cases h;rfl)
  ·rw [h5,Option.bind_some,if_neg h6];rfl) (fun m s=>by simp only [y8.l0];rw [if_neg (by omega)];rfl) (fun s i hi hI s' h=>by
  unfold gB at h
  split at h
  ·split at h
   ·cases h
   ·split at h
    ·cases h
    ·split at h
     ·cases h
     ·cases h;exact ⟨by simp only;omega,by simp only;push_cast;omega,by simp only;omega,by simp only;omega⟩
  ·cases h) K (by omega) (-1,0) ⟨by decide,by decide,by decide,by decide⟩
 have hpos:0<(g.Rules.length:Int):=by omega
 rcases gB_run (g.Names.length:Int) g.Rules (-1,0) (by decide) with ⟨⟨s',h5,h6⟩,h7⟩|⟨h5,h6⟩
 ·rw [h5] at hs;have e:∃ c,y8.l0 K g K (-1,0,0)=some (.inl (s'.1,s'.2,c)):=by
   simp only at hs
   cases hl:y8.l0 K g K (-1,0,0) with
   | none=>rw [hl] at hs;cases hs
   | some x =>
    rw [hl] at hs
    cases x with
    | inl x=>obtain ⟨a,b,c⟩:=x;simp only [Option.map_some,Option.some.injEq,Sum.inl.injEq,Prod.mk.injEq] at hs;exact ⟨c,by rw [← hs.1]⟩
    | inr q=>cases hs
  obtain ⟨c,hl⟩:=e;rw [hl];simp only [brk,Option.bind_some];rw [if_pos hpos];have hn64:=hnm.2.1
  by_cases h8:(rd g.Rules 0).Head=0
  ·rw [if_pos h8];refine ⟨_,rfl,?_⟩;rw [decide_eq_true_eq,wr (by omega) (by omega),h6];simp only at h7;exact ⟨fun h=>⟨hnm,by omega,by omega,by omega,by omega,h8,h,by omega⟩,fun h=>h.2.2.2.2.2.2.1⟩
  ·rw [if_neg h8];exact ⟨_,rfl,by simp only [Bool.false_eq_true,false_iff];exact fun h=>h8 h.2.2.2.2.2.1⟩
 ·rw [h5] at hs;have e:y8.l0 K g K (-1,0,0)=some (.inr false):=by
   simp only at hs
   cases hl:y8.l0 K g K (-1,0,0) with
   | none=>rw [hl] at hs;cases hs
   | some x =>
    rw [hl] at hs
    cases x with
    | inl x=>cases hs
    | inr q=>cases hs;rfl
  rw [e];refine ⟨false,rfl,?_⟩;simp only [Bool.false_eq_true,false_iff];exact fun h=>h6 ⟨h.2.2.2.2.2.2.1,by have:=h.2.2.2.2.2.2.2;simp only;omega⟩
theorem chain_le {n:Int}:∀ {rs:List Rule} {h:Int},chainP n h rs→h≤n-1
 | [],h,hc=>by rw [chainP] at hc;omega
 | r::rs,h,hc=>by
  rw [chainP] at hc;have:=chain_le hc.2.2;omega
def rB (n:Int)(s:Int×Int)(r:Rule):(Int×Int) ⊕ Bool:=if r.Head<0 then .inr false else if r.Head≠s.1∧r.Head≠s.1+1 then .inr false else if n≤r.Head then .inr false else if ruleP n r then .inl (r.Head,s.2+(sumR r:Int)) else .inr false
theorem rB_run (n:Int):∀ (rs:List Rule) (s:Int×Int),0≤s.1∨(∃ r rs',rs=r::rs'∧(0≤r.Head∨¬ chainP n s.1 rs))∨rs=[]→(∃ s',runL (rB n) s rs = .inl s'∧(s'.1=n-1↔chainP n s.1 rs)∧s'.2=s.2+(total rs:Int))∨(runL (rB n) s rs = .inr false∧(¬ chainP n s.1 rs))
 | [],s,hs=>.inl ⟨s,rfl,Iff.rfl,by simp [total]⟩
 | r::rs,s,hs=>by
  unfold runL rB total
  by_cases h0:r.Head<0
  ·rw [if_pos h0];refine .inr ⟨rfl,fun h=>?_⟩;rw [chainP] at h;rcases hs with hs|⟨r',rs',e,hs|hs⟩|e
   ·omega
   ·cases e;omega
   ·cases e;exact hs (by rw [chainP];exact h)
   ·cases e
  rw [if_neg h0]
  by_cases h2:r.Head≠s.1∧r.Head≠s.1+1
  ·rw [if_pos h2];exact .inr ⟨rfl,fun h=>by rw [chainP] at h;omega⟩
  rw [if_neg h2]
  by_cases h3:n≤r.Head
  ·rw [if_pos h3];exact .inr ⟨rfl,fun h=>by rw [chainP] at h;have:=chain_le h.2.2;omega⟩
  rw [if_neg h3]
  by_cases h1:ruleP n r
  ·rw [if_pos h1];rcases rB_run n rs (r.Head,s.2+(sumR r:Int)) (.inl (by simp only;omega)) with ⟨s',h5,h6,h7⟩|⟨h5,h6⟩
   ·refine .inl ⟨s',h5,h6.trans ?_,by rw [h7];simp only;push_cast;omega⟩;rw [chainP];exact ⟨fun h=>⟨h1,by omega,h⟩,fun h=>h.2.2⟩
   ·exact .inr ⟨h5,fun h=>h6 (by rw [chainP] at h;exact h.2.2)⟩
  ·rw [if_neg h1];exact .inr ⟨rfl,fun h=>by rw [chainP] at h;exact h1 h.1⟩
section
open S Go.Sort
set_option maxRecDepth 100000
theorem first_any {α ρ β:Type}[Inhabited α](xs:List α)(p:α→Bool)(r:ρ)(a:β):(match firstOf (fun k=>if p (rd xs (k:Int))=true then some r else none) xs.length 0 with | some q=>(.inr q:β ⊕ ρ) | none=>.inl a)=if xs.any p=true then .inr r else .inl a:=by
 cases hf:firstOf (fun k=>if p (rd xs (k:Int))=true then some r else none) xs.length 0 with
 | some q =>
  obtain ⟨j,_,hj,h3,_⟩:=firstOf_some hf
  split at h3
  ·rename_i he
   cases h3;rw [if_pos (List.any_eq_true.2 ⟨_,rd_mem (Int.natCast_nonneg j) (by omega),he⟩)]
  ·cases h3
 | none =>
  rw [if_neg];intro hm;obtain ⟨x,hx,hpx⟩:=List.any_eq_true.1 hm;obtain ⟨j,hj,rfl⟩:=List.getElem_of_mem hx;have:=firstOf_none.1 hf j (by omega) (by omega);rw [rd_nat,List.getD_eq_getElem?_getD,List.getElem?_eq_getElem hj,Option.getD_some,if_pos hpx] at this;cases this
theorem reach_le:reachBytes=140737488351232:=by decide
def SzG (g:Grammar):Prop:=g.Names.length*16≤140737488351232∧g.Rules.length*32≤140737488351232∧∀ r ∈ g.Rules,r.Conj.length*32≤140737488351232∧∀ c ∈ r.Conj,c.Seq.length*24≤140737488351232
theorem SzG_wf {g:Grammar}(w:jh g):SzG g:=by
 obtain ⟨_,⟨w1,_⟩,w2,w3⟩:=w;rw [reach_le] at w1 w2;refine ⟨w1,w2,fun r hr=>?_⟩;obtain ⟨_,w4,w5⟩:=w3 r hr;rw [reach_le] at w4;refine ⟨w4,fun c hc=>?_⟩;have w6:=(w5 c hc).2.1;rw [reach_le] at w6;exact w6
def KW:Nat:=140737488355328
def needC (b:Int)(neg:Bool)(c:Conjunct):Bool:=decide (c.Neg=neg) && c.Seq.any fun s=>decide (s.Name=b)
def needR (a b:Int)(neg:Bool)(r:Rule):Bool:=decide (r.Head=a) && r.Conj.any (needC b neg)
def need (g:Grammar)(a b:Int)(neg:Bool):Bool:=g.Rules.any (needR a b neg)
def refB (g:Grammar)(a b:Nat):List Edge:=(if need g a b false=true then [(⟨a,b,false⟩:Edge)] else [])++(if need g a b true=true then [(⟨a,b,true⟩:Edge)] else [])
def refA (g:Grammar)(n a:Nat):List Edge:=(List.range n).flatMap (refB g a)
def refL (g:Grammar):List Edge:=(List.range g.Names.length).flatMap (refA g g.Names.length)
theorem refB_len (g:Grammar)(a b:Nat):(refB g a b).length≤2:=by
 unfold refB
 split <;> split <;> simp
theorem appLoop {T:Type}{n c B:Nat}{L:Nat→List T×Int→Option (List T×Int)}(f:Nat→List T)(hf:∀ i,(f i).length≤c)(step:∀ m s i,i<n→s.length+c≤B→L (m+1) (s,(i:Int))=L m (s++f i,(i:Int)+1))
  (stop:∀ m s,L (m+1) (s,(n:Int))=some (s,(n:Int))) (m:Nat) (hm:n<m) (s:List T) (hs:s.length+n*c≤B):L m (s,0)=some (s++(List.range n).flatMap f,(n:Int)):=by
 have key:∀ k i s m,i+k=n→k<m→s.length+k*c≤B→L m (s,(i:Int))=some (s++(List.range' i k).flatMap f,(n:Int)):=by
  intro k
  induction k with
  | zero =>
   intro i s m hi hm hs;obtain ⟨m,rfl⟩:∃ q,m=q+1:=⟨m-1,by omega⟩
   have:i=n:=by omega
   subst this;rw [stop];simp
  | succ k ih =>
   intro i s m hi hm hs;obtain ⟨m,rfl⟩:∃ q,m=q+1:=⟨m-1,by omega⟩
   rw [Nat.add_mul] at hs;have hfi:=hf i;rw [step m s i (by omega) (by omega),List.range'_succ,List.flatMap_cons,← List.append_assoc];have:=ih (i+1) (s++f i) m (by omega) (by omega) (by rw [List.length_append];omega);simpa using this
 have:=key n 0 s m (by omega) hm hs;rw [List.range_eq_range'];simpa using this
theorem refA_len (g:Grammar)(n a:Nat):(refA g n a).length≤2*n:=by
 unfold refA;have:∀ (l:List Nat),(l.flatMap (refB g a)).length≤2*l.length:=by
  intro l
  induction l with
  | nil=>simp
  | cons x l ih =>
   have:=refB_len g a x;rw [List.flatMap_cons,List.length_append,List.length_cons];omega
 simpa using this (List.range n)
theorem chain_mem {n:Int}:∀ {rs:List Rule} {h:Int},chainP n h rs→∀ r ∈ rs,h≤r.Head∧r.Head≤n-1∧ruleP n r
 | [],h,hc,r,hr=>by cases hr
 | q::rs,h,hc,r,hr=>by
  rw [chainP] at hc;have hl:=chain_le hc.2.2;rcases List.mem_cons.1 hr with rfl|hr
  ·exact ⟨by omega,hl,hc.1⟩
  ·have:=chain_mem hc.2.2 r hr;exact ⟨by omega,this.2.1,this.2.2⟩
theorem may_heads {g:Grammar}(h:mayP g):∀ r ∈ g.Rules,0≤r.Head∧r.Head<(g.Names.length:Int)∧ruleP (g.Names.length:Int) r:=by
 obtain ⟨_,_,_,h1,_,h2,h3,_⟩:=h
 cases hr:g.Rules with
 | nil=>rw [hr] at h1;simp at h1
 | cons r0 rs =>
  rw [hr] at h2 h3;have h4:r0.Head=0:=h2;rw [chainP] at h3;intro r hm;have hl:=chain_le h3.2.2;rcases List.mem_cons.1 hm with rfl|hm
  ·exact ⟨by omega,by omega,h3.1⟩
  ·have:=chain_mem h3.2.2 r hm;exact ⟨by omega,by omega,this.2.2⟩
theorem may_bd {g:Grammar}(h:mayP g):Bd g:=⟨h.2.2.2.2.1,fun r hr=>⟨(may_heads h r hr).2.2.2.1,fun c hc=>((may_heads h r hr).2.2.2.2 c hc).1⟩⟩
theorem occ_bounds {g:Grammar}(h:mayP g){e:Edge}(ho:Occ g e):0≤e.From∧e.From<(g.Names.length:Int)∧0≤e.To∧e.To<(g.Names.length:Int):=by
 obtain ⟨r,hr,c,hc,s,hs,h0,rfl⟩:=ho;have h1:=may_heads h r hr;have h2:=(h1.2.2.2.2 c hc).2 s hs;refine ⟨h1.1,h1.2.1,h0,?_⟩;show s.Name<_;rcases h2 with h2|h2 <;> omega
theorem need_occ (g:Grammar)(a b:Int)(neg:Bool)(hb:0≤b):need g a b neg=true↔Occ g ⟨a,b,neg⟩:=by
 unfold need needR needC Occ OccR OccC OccS;simp only [List.any_eq_true,Bool.and_eq_true,decide_eq_true_eq,eOf,Edge.mk.injEq];constructor
 ·rintro ⟨r,hr,h1,c,hc,h2,s,hs,h3⟩;exact ⟨r,hr,c,hc,s,hs,by omega,h1.symm,h3.symm,h2.symm⟩
 ·rintro ⟨r,hr,c,hc,s,hs,h0,h1,h3,h2⟩;exact ⟨r,hr,h1.symm,c,hc,h2.symm,s,hs,h3.symm⟩
theorem mem_refB {g:Grammar}{a b:Nat}{e:Edge}:e ∈ refB g a b↔e.From=a∧e.To=b∧Occ g e:=by
 have h0:=need_occ g a b false (Int.natCast_nonneg b);have h1:=need_occ g a b true (Int.natCast_nonneg b);unfold refB;rw [List.mem_append];obtain ⟨x,y,neg⟩:=e;constructor
 ·rintro (h|h)
  ·split at h
   ·rename_i hn
    rw [List.mem_singleton] at h;cases h;exact ⟨rfl,rfl,h0.1 hn⟩
   ·cases h
  ·split at h
   ·rename_i hn
    rw [List.mem_singleton] at h;cases h;exact ⟨rfl,rfl,h1.1 hn⟩
   ·cases h
 ·rintro ⟨e1,e2,ho⟩;simp only at e1 e2;subst e1 e2
  cases neg with
  | false=>rw [if_pos (h0.2 ho)];exact .inl (.head _)
  | true=>rw [if_pos (h1.2 ho)];exact .inr (.head _)
theorem mem_refL {g:Grammar}(h:mayP g){e:Edge}:e ∈ refL g↔Occ g e:=by
 unfold refL refA;simp only [List.mem_flatMap,List.mem_range,mem_refB];constructor
 ·rintro ⟨a,_,b,_,_,_,ho⟩;exact ho
 ·intro ho;have:=occ_bounds h ho;exact ⟨e.From.toNat,by omega,e.To.toNat,by omega,by omega,by omega,ho⟩
def eLt (a b:Edge):Prop:=a.From<b.From∨(a.From=b.From∧(a.To<b.To∨(a.To=b.To∧a.Neg=false∧b.Neg=true)))
theorem refL_sorted (g:Grammar):(refL g).Pairwise eLt:=by
 unfold refL;refine List.pairwise_flatMap.2 ⟨fun a _=>?_,List.pairwise_lt_range.imp fun {a a'} hlt x hx y hy=>?_⟩
 ·unfold refA;refine List.pairwise_flatMap.2 ⟨fun b _=>?_,List.pairwise_lt_range.imp fun {b b'} hlt x hx y hy=>?_⟩
  ·unfold refB
   split <;> split <;> simp [eLt]
  ·have h1:=mem_refB.1 hx;have h2:=mem_refB.1 hy;exact .inr ⟨by rw [h1.1,h2.1],.inl (by rw [h1.2.1,h2.2.1];omega)⟩
 ·unfold refA at hx hy;simp only [List.mem_flatMap] at hx hy;obtain ⟨b,_,hx⟩:=hx;obtain ⟨b',_,hy⟩:=hy;have h1:=mem_refB.1 hx;have h2:=mem_refB.1 hy;exact .inl (by rw [h1.1,h2.1];omega)
theorem edgesOf_pairwise (g:Grammar):(edgesOf g).Pairwise fun x y=>(!(ltOf rowC y x))=true:=by
 refine List.pairwise_mergeSort (fun a b c h1 h2=>?_) (fun a b=>?_) _
 ·have:=rowC_swo.ntrans c b a (by simpa using h2) (by simpa using h1);simpa using this
 ·by_cases h:ltOf rowC b a=true
  ·have:ltOf rowC a b=false:=by
    cases hab:ltOf rowC a b with
    | false=>rfl
    | true=>have:=rowC_swo.trans _ _ _ h hab;rw [rowC_swo.irrefl] at this;cases this
   simp [this]
  ·simp [h]
theorem edgesOf_is (g:Grammar){es:List Edge}(hs:es.Pairwise eLt)(hm:∀ e,e ∈ es↔Occ g e):edgesOf g=es:=by
 refine perm_unique (r:=fun x y=>(!(ltOf rowC y x))=true) (fun x y h1 h2=>rowC_anti _ _ (by simpa using h2) (by simpa using h1)) ?_ (edgesOf_pairwise g) (hs.imp fun {x y} h=>?_)
 ·refine (List.perm_ext_iff_of_nodup (edges_nodup g) (hs.imp fun {x y} h e=>?_)).2 fun e=>by rw [mem_edges,hm]
  subst e;have:=(rowC_lt x x).2 h;rw [rowC_swo.irrefl] at this;cases this
 ·have h1:=(rowC_lt x y).2 h
  cases h2:ltOf rowC y x with
  | false=>rfl
  | true=>have:=rowC_swo.trans _ _ _ h1 h2;rw [rowC_swo.irrefl] at this;cases this
theorem edges_ref {g:Grammar}(h:mayP g):edgesOf g=refL g:=edgesOf_is g (refL_sorted g) fun e=>mem_refL h
end
section
open S
abbrev Sp:=Int→Nat→Nat→Prop
def SymS (N:Sp)(w:Nat→Int)(s:Symbol)(i j:Nat):Prop:=if 0≤s.Name then N s.Name i j else j=i+1∧s.Lo≤w i∧w i≤s.Hi
def SeqS (N:Sp)(w:Nat→Int):List Symbol→Nat→Nat→Prop
 | [],i,j=>i=j
 | s::l,i,j=>∃ k,i≤k∧k≤j∧SymS N w s i k∧SeqS N w l k j
def RuleS (N:Sp)(w:Nat→Int)(r:Rule)(i j:Nat):Prop:=∀ c ∈ r.Conj,(c.Neg=true↔¬ SeqS N w c.Seq i j)
theorem SeqS_snoc {N:Sp}{w:Nat→Int}{s:Symbol}:∀ {l:List Symbol} {i j:Nat},SeqS N w (l++[s]) i j↔∃ k,i≤k∧k≤j∧SeqS N w l i k∧SymS N w s k j
 | [],i,j=>by
  constructor
  ·rintro ⟨k,h1,h2,h3,h4⟩;have:k=j:=h4;subst this;exact ⟨i,Nat.le_refl _,h1,rfl,h3⟩
  ·rintro ⟨k,h1,h2,h3,h4⟩;have:i=k:=h3;subst this;exact ⟨j,h2,Nat.le_refl _,h4,rfl⟩
 | t::l,i,j=>by
  constructor
  ·rintro ⟨k,h1,h2,h3,h4⟩;obtain ⟨q,q1,q2,q3,q4⟩:=SeqS_snoc.1 h4;exact ⟨q,Nat.le_trans h1 q1,q2,⟨k,h1,q1,h3,q3⟩,q4⟩
  ·rintro ⟨q,q1,q2,⟨k,h1,h2,h3,h4⟩,q4⟩;exact ⟨k,h1,Nat.le_trans h2 q2,h3,SeqS_snoc.2 ⟨q,h2,q2,h4,q4⟩⟩
theorem SymS_mono {A B:Sp}{w:Nat→Int}{s:Symbol}{i j:Nat}(h:0≤s.Name→A s.Name i j→B s.Name i j)(hs:SymS A w s i j):SymS B w s i j:=by
 unfold SymS at hs ⊢
 split at hs
 ·rename_i h0;rw [if_pos h0];exact h h0 hs
 ·rename_i h0;rw [if_neg h0];exact hs
theorem SeqS_mono {A B:Sp}{w:Nat→Int}:∀ {l:List Symbol} {i j:Nat},(∀ s ∈ l,0≤s.Name→∀ a b,i≤a→a≤b→b≤j→A s.Name a b→B s.Name a b)→SeqS A w l i j→SeqS B w l i j
 | [],i,j,_,h=>h
 | s::l,i,j,hm,⟨k,h1,h2,h3,h4⟩=>⟨k,h1,h2,SymS_mono (fun h0=>hm s (List.mem_cons_self ..) h0 i k (Nat.le_refl _) h1 h2) h3,SeqS_mono (fun t ht h0 a b ha hab hb=>hm t (List.mem_cons_of_mem _ ht) h0 a b (Nat.le_trans h1 ha) hab hb) h4⟩
def LvS (n:Nat)(rs:List Rule)(lv:Int→Int):Prop:=∀ r ∈ rs,(0≤r.Head∧r.Head<n)∧∀ c ∈ r.Conj,∀ s ∈ c.Seq,0≤s.Name→s.Name<n∧lv s.Name+(if c.Neg=true then 1 else 0)≤lv r.Head
theorem RuleS_mono {n:Nat}{rs:List Rule}{lv:Int→Int}(hl:LvS n rs lv){w:Nat→Int}{r:Rule}(hr:r ∈ rs){A B:Sp}{i j:Nat}
  (h1:∀ y:Int,0≤y→y<n→lv y<lv r.Head→∀ a b,i≤a→a≤b→b≤j→(A y a b↔B y a b)) (h2:∀ y:Int,0≤y→y<n→lv y≤lv r.Head→∀ a b,i≤a→a≤b→b≤j→A y a b→B y a b) (h:RuleS A w r i j):RuleS B w r i j:=by
 intro c hc;have hs:=(hl r hr).2 c hc;have hh:=h c hc
 cases hn:c.Neg with
 | true =>
  rw [hn] at hh;refine ⟨fun _ hb=>hh.1 rfl (SeqS_mono (fun s hm h0 a b ha hab hb'=>?_) hb),fun _=>rfl⟩;have:=hs s hm h0;rw [hn] at this;exact (h1 s.Name h0 this.1 (by simp at this;omega) a b ha hab hb').2
 | false =>
  rw [hn] at hh;refine ⟨fun e=>(by cases e),fun hb=>?_⟩;have ha:SeqS A w c.Seq i j:=Classical.byContradiction fun hx=>by cases hh.2 hx
  refine (hb (SeqS_mono (fun s hm h0 a b ha' hab hb'=>?_) ha)).elim;have:=hs s hm h0;rw [hn] at this;exact h2 s.Name h0 this.1 (by simp at this;omega) a b ha' hab hb'
structure Lvl (n:Nat)(rs:List Rule)(lv:Int→Int)(H:(Int→Prop)→Rule→Prop):Prop where
 hd:∀ r ∈ rs,0≤r.Head∧r.Head<n
 mono:∀ r ∈ rs,∀ A B:Int→Prop,(∀ y:Int,0≤y→y<n→lv y<lv r.Head→(A y↔B y))→(∀ y:Int,0≤y→y<n→lv y≤lv r.Head→A y→B y)→H A r→H B r
structure PM1 (n:Nat)(rs:List Rule)(lv:Int→Int)(H:(Int→Prop)→Rule→Prop)(has:Int→Prop):Prop where
 cl:∀ r ∈ rs,H has r→has r.Head
 su:∀ x:Int,0≤x→x<n→has x→∃ r ∈ rs,r.Head=x∧H has r
 mi:∀ (t:Int) (M:Int→Prop),(∀ y:Int,0≤y→y<n→lv y<t→(M y↔has y))→(∀ r ∈ rs,lv r.Head=t→H M r→M r.Head)→∀ y:Int,0≤y→y<n→lv y=t→has y→M y
theorem PM1.uniq {n:Nat}{rs:List Rule}{lv:Int→Int}{H:(Int→Prop)→Rule→Prop}(h0:∀ y:Int,0≤y→y<n→0≤lv y){A B:Int→Prop}(hA:PM1 n rs lv H A)(hB:PM1 n rs lv H B):∀ x:Int,0≤x→x<n→(A x↔B x):=by
 have key:∀ t:Nat,∀ x:Int,0≤x→x<n→lv x<t→(A x↔B x):=by
  intro t
  induction t with
  | zero=>intro x h1 h2 h3;have:=h0 x h1 h2;omega
  | succ t ih =>
   intro x h1 h2 h3
   by_cases hx:lv x<t
   ·exact ih x h1 h2 hx
   ·have hx':lv x=t:=by omega
    exact ⟨hA.mi t B (fun y y1 y2 y3=>(ih y y1 y2 y3).symm) (fun r hr _ h=>hB.cl r hr h) x h1 h2 hx',hB.mi t A (fun y y1 y2 y3=>ih y y1 y2 y3) (fun r hr _ h=>hA.cl r hr h) x h1 h2 hx'⟩
 intro x h1 h2;refine key (lv x+1).toNat x h1 h2 ?_;have:=h0 x h1 h2;omega
structure RI (n:Nat)(rs:List Rule)(lv:Int→Int)(H:(Int→Prop)→Rule→Prop)(t:Int)(has:Int→Prop):Prop where
 a:∀ x:Int,0≤x→x<n→has x→lv x≤t
 b:∀ x:Int,0≤x→x<n→has x→∃ r ∈ rs,r.Head=x∧H has r
 c:∀ r ∈ rs,lv r.Head<t→H has r→has r.Head
 d:∀ (t':Int) (M:Int→Prop),(∀ y:Int,0≤y→y<n→lv y<t'→(M y↔has y))→(∀ r ∈ rs,lv r.Head=t'→H M r→M r.Head)→∀ y:Int,0≤y→y<n→lv y=t'→has y→M y
variable {n:Nat}{rs:List Rule}{lv:Int→Int}{H:(Int→Prop)→Rule→Prop}
theorem RI.zero (h0:∀ y:Int,0≤y→y<n→0≤lv y)(hl:Lvl n rs lv H):RI n rs lv H 0 fun _=>False :=
 ⟨fun _ _ _ h=>h.elim,fun _ _ _ h=>h.elim,fun r hr h _=>by have:=h0 r.Head (hl.hd r hr).1 (hl.hd r hr).2;omega,fun _ _ _ _ _ _ _ _ h=>h.elim⟩
theorem RI.put {t:Int}{has:Int→Prop}(hl:Lvl n rs lv H)(h:RI n rs lv H t has){r:Rule}(hr:r ∈ rs)(ht:lv r.Head=t)(hh:H has r):RI n rs lv H t fun x=>has x∨x=r.Head:=by
 have hd:=hl.hd r hr;refine ⟨fun x h1 h2 hx=>hx.elim (h.a x h1 h2) (fun e=>by rw [e];omega),fun x h1 h2 hx=>?_,fun q hq hlt hH=>?_,fun t' M hM hc y h1 h2 hy hx=>?_⟩
 ·have up:∀ q ∈ rs,H has q→H (fun x=>has x∨x=r.Head) q∨t≤lv q.Head:=fun q hq hH=>by
   by_cases e:t≤lv q.Head
   ·exact .inr e
   ·refine .inl (hl.mono q hq _ _ (fun y y1 y2 y3=>⟨.inl,fun z=>z.elim id fun e'=>?_⟩) (fun y _ _ _ z=>.inl z) hH);rw [e',ht] at y3;omega
  have up2:∀ q ∈ rs,t≤lv q.Head→lv q.Head≤t→H has q→H (fun x=>has x∨x=r.Head) q:=fun q hq h1 h2 hH=>hl.mono q hq _ _ (fun y y1 y2 y3=>⟨.inl,fun z=>z.elim id fun e'=>by rw [e',ht] at y3;omega⟩) (fun y _ _ _ z=>.inl z) hH
  have any:∀ q ∈ rs,lv q.Head≤t→H has q→H (fun x=>has x∨x=r.Head) q:=fun q hq hle hH=>(up q hq hH).elim id fun e=>up2 q hq e hle hH
  rcases hx with hx|hx
  ·obtain ⟨q,hq,e,hH⟩:=h.b x h1 h2 hx;exact ⟨q,hq,e,any q hq (by rw [e];exact h.a x h1 h2 hx) hH⟩
  ·exact ⟨r,hr,hx.symm,any r hr (by omega) hh⟩
 ·refine .inl (h.c q hq hlt (hl.mono q hq _ _ (fun y y1 y2 y3=>⟨fun z=>z.elim id fun e'=>?_,.inl⟩) (fun y _ _ y3 z=>z.elim id fun e'=>?_) hH))
  ·rw [e',ht] at y3;omega
  ·rw [e',ht] at y3;omega
 ·by_cases e:t<t'
  ·rcases hx with hx|hx
   ·have:=h.a y h1 h2 hx;omega
   ·rw [hx,ht] at hy;omega
  ·have hM':∀ z:Int,0≤z→z<n→lv z<t'→(M z↔has z):=fun z z1 z2 z3=>by
    rw [hM z z1 z2 z3];exact ⟨fun q=>q.elim id fun e'=>by rw [e',ht] at z3;omega,.inl⟩
   rcases hx with hx|hx
   ·exact h.d t' M hM' hc y h1 h2 hy hx
   ·subst hx;have et:t'=t:=by omega
    subst et;exact hc r hr ht (hl.mono r hr _ _ (fun z z1 z2 z3=>(hM' z z1 z2 (by omega)).symm) (fun z z1 z2 z3 q=>by
     by_cases e3:lv z<t'
     ·exact (hM' z z1 z2 e3).2 q
     ·exact h.d t' M hM' hc z z1 z2 (by omega) q) hh)
theorem RI.puts {t:Int}{has A:Int→Prop}(hl:Lvl n rs lv H)(h:RI n rs lv H t has)(hA:∀ x,A x→∃ r ∈ rs,r.Head=x∧lv x=t∧H has r):RI n rs lv H t fun x=>has x∨A x:=by
 have lo:∀ y:Int,lv y<t→((has y∨A y)↔has y):=fun y hy=>⟨fun z=>z.elim id fun e=>by obtain ⟨r,_,_,h2,_⟩:=hA y e;omega,.inl⟩
 have any:∀ q ∈ rs,lv q.Head≤t→H has q→H (fun x=>has x∨A x) q:=fun q hq hle hH=>hl.mono q hq _ _ (fun y y1 y2 y3=>(lo y (by omega)).symm) (fun y _ _ _ z=>.inl z) hH
 refine ⟨fun x h1 h2 hx=>hx.elim (h.a x h1 h2) (fun e=>by obtain ⟨r,_,_,h3,_⟩:=hA x e;omega),fun x h1 h2 hx=>?_,fun q hq hlt hH=>.inl (h.c q hq hlt (hl.mono q hq _ _ (fun y y1 y2 y3=>lo y (by omega)) (fun y _ _ y3 z=>(lo y (by omega)).1 z) hH)),fun t' M hM hc y h1 h2 hy hx=>?_⟩
 ·rcases hx with hx|hx
  ·obtain ⟨q,hq,e,hH⟩:=h.b x h1 h2 hx;exact ⟨q,hq,e,any q hq (by rw [e];exact h.a x h1 h2 hx) hH⟩
  ·obtain ⟨r,hr,e,h3,hH⟩:=hA x hx;exact ⟨r,hr,e,any r hr (by rw [e];omega) hH⟩
 ·by_cases e:t<t'
  ·rcases hx with hx|hx
   ·have:=h.a y h1 h2 hx;omega
   ·obtain ⟨r,_,_,h3,_⟩:=hA y hx;omega
  ·have hM':∀ z:Int,0≤z→z<n→lv z<t'→(M z↔has z):=fun z z1 z2 z3=>by
    rw [hM z z1 z2 z3];exact lo z (by omega)
   rcases hx with hx|hx
   ·exact h.d t' M hM' hc y h1 h2 hy hx
   ·obtain ⟨r,hr,er,h3,hH⟩:=hA y hx;have et:t'=t:=by omega
    subst et;subst er;exact hc r hr h3 (hl.mono r hr _ _ (fun z z1 z2 z3=>(hM' z z1 z2 (by omega)).symm) (fun z z1 z2 z3 q=>by
     by_cases e3:lv z<t'
     ·exact (hM' z z1 z2 e3).2 q
     ·exact h.d t' M hM' hc z z1 z2 (by omega) q) hH)
theorem RI.up {t:Int}{has:Int→Prop}(h:RI n rs lv H t has)(hc:∀ r ∈ rs,lv r.Head=t→H has r→has r.Head):RI n rs lv H (t+1) has :=
 ⟨fun x h1 h2 hx=>by have:=h.a x h1 h2 hx;omega,h.b,fun r hr hlt hH=>by
  by_cases e:lv r.Head<t
  ·exact h.c r hr e hH
  ·exact hc r hr (by omega) hH,h.d⟩
theorem RI.done {t:Int}{has:Int→Prop}(h:RI n rs lv H t has)(hl:Lvl n rs lv H)(ht:∀ y:Int,0≤y→y<n→lv y<t):PM1 n rs lv H has :=
 ⟨fun r hr hH=>h.c r hr (ht _ (hl.hd r hr).1 (hl.hd r hr).2) hH,h.b,h.d⟩
theorem RI_on {t:Int}{A B:Int→Prop}(h:RI n rs lv H t A)(e:∀ y:Int,0≤y→y<n→(B y↔A y))(hl:Lvl n rs lv H):RI n rs lv H t B:=by
 have up:∀ r ∈ rs,H A r→H B r:=fun r hr hH=>hl.mono r hr A B (fun y y1 y2 _=>(e y y1 y2).symm) (fun y y1 y2 _=>(e y y1 y2).2) hH
 have dn:∀ r ∈ rs,H B r→H A r:=fun r hr hH=>hl.mono r hr B A (fun y y1 y2 _=>e y y1 y2) (fun y y1 y2 _=>(e y y1 y2).1) hH
 exact ⟨fun x h1 h2 hx=>h.a x h1 h2 ((e x h1 h2).1 hx),fun x h1 h2 hx=>let ⟨r,hr,er,hH⟩:=h.b x h1 h2 ((e x h1 h2).1 hx);⟨r,hr,er,up r hr hH⟩,fun r hr hlt hH=>(e _ (hl.hd r hr).1 (hl.hd r hr).2).2 (h.c r hr hlt (dn r hr hH)),
  fun t' M hM hc y h1 h2 hy hx=>h.d t' M (fun y y1 y2 y3=>(hM y y1 y2 y3).trans (e y y1 y2)) hc y h1 h2 hy ((e y h1 h2).1 hx)⟩
def upd (N:Sp)(i j:Nat)(M:Int→Prop):Sp:=fun x a b=>if a=i∧b=j then M x else N x a b
theorem upd_self {N:Sp}{i j:Nat}:upd N i j (fun x=>N x i j)=N:=by
 funext x a b
 unfold upd
 split
 ·rename_i h;rw [h.1,h.2]
 ·rfl
def HS (N:Sp)(w:Nat→Int)(i j:Nat)(M:Int→Prop)(r:Rule):Prop:=RuleS (upd N i j M) w r i j
theorem HS_lvl {n:Nat}{rs:List Rule}{lv:Int→Int}(hl:LvS n rs lv)(N:Sp)(w:Nat→Int)(i j:Nat):Lvl n rs lv (HS N w i j) :=
 ⟨fun r hr=>(hl r hr).1,fun r hr A B h1 h2 h=>RuleS_mono hl hr (fun y y1 y2 y3 a b _ _ _=>by
  unfold upd;split
  ·exact h1 y y1 y2 y3
  ·exact Iff.rfl) (fun y y1 y2 y3 a b _ _ _=>by
  unfold upd;split
  ·exact h2 y y1 y2 y3
  ·exact id) h⟩
theorem HS_env {n:Nat}{rs:List Rule}{lv:Int→Int}(hl:LvS n rs lv){A B:Sp}{w:Nat→Int}{i j:Nat}{M:Int→Prop}{r:Rule}(hr:r ∈ rs)(h:∀ y:Int,0≤y→y<n→∀ a b,i≤a→a≤b→b≤j→¬ (a=i∧b=j)→(A y a b↔B y a b)):HS A w i j M r→HS B w i j M r :=
 RuleS_mono hl hr (fun y y1 y2 _ a b h1 h2 h3=>by
  unfold upd;split
  ·exact Iff.rfl
  ·rename_i e;exact h y y1 y2 a b h1 h2 h3 e) (fun y y1 y2 _ a b h1 h2 h3=>by
  unfold upd;split
  ·exact id
  ·rename_i e;exact (h y y1 y2 a b h1 h2 h3 e).1)
theorem PM1.env {n:Nat}{rs:List Rule}{lv:Int→Int}(hl:LvS n rs lv){A B:Sp}{w:Nat→Int}{i j:Nat}{has:Int→Prop}(h:∀ y:Int,0≤y→y<n→∀ a b,i≤a→a≤b→b≤j→¬ (a=i∧b=j)→(A y a b↔B y a b))(hp:PM1 n rs lv (HS A w i j) has):PM1 n rs lv (HS B w i j) has:=by
 have h':∀ y:Int,0≤y→y<n→∀ a b,i≤a→a≤b→b≤j→¬ (a=i∧b=j)→(B y a b↔A y a b):=fun y y1 y2 a b h1 h2 h3 h4=>(h y y1 y2 a b h1 h2 h3 h4).symm
 exact ⟨fun r hr hH=>hp.cl r hr (HS_env hl hr h' hH),fun x x1 x2 hx=>let ⟨r,hr,e,hH⟩:=hp.su x x1 x2 hx;⟨r,hr,e,HS_env hl hr h hH⟩,fun t M hM hc=>hp.mi t M hM fun r hr ht hH=>hc r hr ht (HS_env hl hr h hH)⟩
def PMs (n:Nat)(rs:List Rule)(lv:Int→Int)(w:Nat→Int)(L:Nat)(N:Sp):Prop:=∀ i j,i≤j→j≤L→PM1 n rs lv (HS N w i j) fun x=>N x i j
theorem PMs.uniq {n:Nat}{rs:List Rule}{lv:Int→Int}{w:Nat→Int}{L:Nat}(hl:LvS n rs lv)(h0:∀ y:Int,0≤y→y<n→0≤lv y){A B:Sp}(hA:PMs n rs lv w L A)(hB:PMs n rs lv w L B):∀ i j,i≤j→j≤L→∀ x:Int,0≤x→x<n→(A x i j↔B x i j):=by
 have key:∀ d i j,j-i<d→i≤j→j≤L→∀ x:Int,0≤x→x<n→(A x i j↔B x i j):=by
  intro d
  induction d with
  | zero=>intro i j h;omega
  | succ d ih =>
   intro i j hd hij hj;have e:∀ y:Int,0≤y→y<n→∀ a b,i≤a→a≤b→b≤j→¬ (a=i∧b=j)→(A y a b↔B y a b):=fun y y1 y2 a b h1 h2 h3 h4=>ih a b (by omega) h2 (by omega) y y1 y2
   exact PM1.uniq h0 ((hA i j hij hj).env hl e) (hB i j hij hj)
 intro i j hij hj;exact key (j-i+1) i j (by omega) hij hj
theorem PMs.cl {n:Nat}{rs:List Rule}{lv:Int→Int}{w:Nat→Int}{L:Nat}{N:Sp}(h:PMs n rs lv w L N){r:Rule}(hr:r ∈ rs){i j:Nat}(hij:i≤j)(hj:j≤L)(hR:RuleS N w r i j):N r.Head i j :=
 (h i j hij hj).cl r hr (by unfold HS;rw [upd_self];exact hR)
theorem SeqS_word {N:Sp}{w w':Nat→Int}:∀ {l:List Symbol} {i j:Nat},(∀ k,k<j→w k=w' k)→SeqS N w l i j→SeqS N w' l i j
 | [],i,j,_,h=>h
 | s::l,i,j,hw,⟨k,h1,h2,h3,h4⟩=>⟨k,h1,h2,by
   unfold SymS at h3 ⊢
   split at h3
   ·rename_i e;rw [if_pos e];exact h3
   ·rename_i e;rw [if_neg e,← hw i (by omega)];exact h3,SeqS_word hw h4⟩
theorem RuleS_word {N:Sp}{w w':Nat→Int}{r:Rule}{i j:Nat}(hw:∀ k,k<j→w k=w' k)(h:RuleS N w r i j):RuleS N w' r i j:=fun c hc =>
 (h c hc).trans (not_congr ⟨SeqS_word hw,SeqS_word fun k hk=>(hw k hk).symm⟩)
end
section
open S
def okW (v:Int):Prop:=0≤v∧v<18446744073709551616
def bit (v:Int)(i:Nat):Bool:=v.toNat.testBit i
theorem okW0:okW 0:=⟨by decide,by decide⟩
theorem bit0 (i:Nat):bit 0 i=false:=by simp [bit]
theorem okW_lt {v:Int}(h:okW v):v.toNat<2 ^ 64:=by have:=h.1;have:=h.2;omega
theorem okW_cast {v:Int}(h:okW v):((v.toNat:Nat):Int)=v:=Int.toNat_of_nonneg h.1
theorem shr1 {v:Int}(h:okW v)(i:Nat):iand .u64 (ishr .u64 v (i:Int)) 1=if bit v i=true then 1 else 0:=by
 have:=shr_bit (n:=v.toNat) (j:=i) (okW_lt h);rw [okW_cast h] at this;rw [this];unfold bit;split <;> simp_all
theorem and_one {v:Int}(h:okW v):iand .u64 v 1=if bit v 0=true then 1 else 0:=by
 have:=shr1 h 0;rw [ishr] at this;simpa using this
theorem or_ok {v:Int}(h:okW v){i:Nat}(hi:i<64):okW (ior .u64 v (ishl .u64 1 (i:Int))):=by
 have h1:=ishl_nat hi;rw [h1,← okW_cast h,ior_nat (okW_lt h) (Nat.pow_lt_pow_right (by decide) hi)];have:=Nat.or_lt_two_pow (okW_lt h) (Nat.pow_lt_pow_right (show 1<2 by decide) hi);exact ⟨Int.natCast_nonneg _,by omega⟩
theorem or_bit {v:Int}(h:okW v){i:Nat}(hi:i<64)(k:Nat):bit (ior .u64 v (ishl .u64 1 (i:Int))) k=(bit v k || decide (k=i)):=by
 have h1:=ishl_nat hi;rw [h1,← okW_cast h,ior_nat (okW_lt h) (Nat.pow_lt_pow_right (by decide) hi)];simp only [bit,Int.toNat_natCast,Nat.testBit_or,Nat.testBit_two_pow]
 by_cases e:i=k
 ·subst e;simp
 ·have e':¬ k=i:=fun x=>e x.symm
  simp [e,e']
variable {T:Type}[Inhabited T]
theorem rd_set' {xs:List T}{i:Nat}{x:T}(k:Nat):rd (xs.set i x) (k:Int)=if i=k∧i<xs.length then x else rd xs (k:Int):=by
 by_cases h:i<xs.length
 ·rw [rd_set x h];simp [h]
 ·rw [List.set_eq_of_length_le (by omega)];simp [h]
theorem rd_out {xs:List T}{k:Nat}(h:xs.length≤k):rd xs (k:Int)=default:=by simp [rd,List.getD_eq_getElem?_getD,h]
theorem rd_app_lt {xs ys:List T}{k:Nat}(h:k<xs.length):rd (xs++ys) (k:Int)=rd xs (k:Int):=by simp [rd,List.getD_eq_getElem?_getD,List.getElem?_append_left h]
theorem rd_app_at {xs:List T}{y:T}:rd (xs++[y]) (xs.length:Int)=y:=by simp [rd,List.getD_eq_getElem?_getD]
theorem take_succ_rd {xs:List T}{m:Nat}(h:m<xs.length):xs.take (m+1)=xs.take m++[rd xs (m:Int)]:=by
 rw [List.take_add_one,List.getElem?_eq_getElem h];simp [rd,List.getD_eq_getElem?_getD,h]
theorem rd_mem' {xs:List T}{k:Nat}(h:k<xs.length):rd xs (k:Int) ∈ xs:=rd_mem (Int.natCast_nonneg _) (by omega)
theorem mem_rd {xs:List T}{x:T}(h:x ∈ xs):∃ k,k<xs.length∧rd xs (k:Int)=x:=by
 obtain ⟨k,hk,e⟩:=List.getElem_of_mem h;exact ⟨k,hk,by simp [rd,List.getD_eq_getElem?_getD,hk,e]⟩
end
set_option maxRecDepth 10000
abbrev sq (g:Grammar)(r c:Nat):List Symbol:=(rd (rd g.Rules (r:Int)).Conj (c:Int)).Seq
abbrev nc (g:Grammar)(r:Nat):Nat:=(rd g.Rules (r:Int)).Conj.length
abbrev wf (w:List Int):Nat→Int:=fun k=>rd w (k:Int)
structure CX (g:Grammar)(xs w:List Int):Prop where
 may:mayP g
 xl:xs.length=g.Names.length
 lv:LvS g.Names.length g.Rules (rd xs)
 l0:∀ y:Int,0≤y→y<g.Names.length→0≤rd xs y
 l1:∀ y:Int,0≤y→y<g.Names.length→rd xs y≤(g.Names.length:Int)-1
 wl:w.length≤32
 wb:∀ k:Nat,k<w.length→0≤rd w (k:Int)∧rd w (k:Int)<256
theorem CX.nl {g:Grammar}{xs w:List Int}(h:CX g xs w):g.Names.length≤64:=h.may.1.2.1
theorem CX.rl {g:Grammar}{xs w:List Int}(h:CX g xs w):g.Rules.length≤256:=h.may.2.2.2.2.1
theorem CX.cl {g:Grammar}{xs w:List Int}(h:CX g xs w){r:Nat}(hr:r<g.Rules.length):nc g r≤8:=((may_bd h.may).2 _ (rd_mem' hr)).1
theorem CX.ql {g:Grammar}{xs w:List Int}(h:CX g xs w){r c:Nat}(hr:r<g.Rules.length)(hc:c<nc g r):(sq g r c).length≤64:=((may_bd h.may).2 _ (rd_mem' hr)).2 _ (rd_mem' hc)
theorem CX.hd {g:Grammar}{xs w:List Int}(h:CX g xs w){r:Nat}(hr:r<g.Rules.length):0≤(rd g.Rules (r:Int)).Head∧(rd g.Rules (r:Int)).Head<g.Names.length:=(h.lv _ (rd_mem' hr)).1
theorem CX.sy {g:Grammar}{xs w:List Int}(h:CX g xs w){r c m:Nat}(hr:r<g.Rules.length)(hc:c<nc g r)(hm:m<(sq g r c).length):(rd (sq g r c) (m:Int)).Name<g.Names.length:=by
 by_cases h0:0≤(rd (sq g r c) (m:Int)).Name
 ·exact ((h.lv _ (rd_mem' hr)).2 _ (rd_mem' hc) _ (rd_mem' hm) h0).1
 ·have:=h.may.1.1;omega
theorem iff1 {p:Prop}[Decidable p]{a b:Int}(hab:a≠b)(q:Bool):((if q=true then a else b)=a)↔q=true:=by
 cases q <;> simp [hab.symm]
theorem SeqS_env {A B:Sp}{w:Nat→Int}{l:List Symbol}{i j:Nat}(h:∀ s ∈ l,0≤s.Name→∀ a b,i≤a→a≤b→b≤j→(A s.Name a b↔B s.Name a b)):SeqS A w l i j↔SeqS B w l i j :=
 ⟨SeqS_mono fun s hs h0 a b h1 h2 h3=>(h s hs h0 a b h1 h2 h3).1,SeqS_mono fun s hs h0 a b h1 h2 h3=>(h s hs h0 a b h1 h2 h3).2⟩
theorem rd_map {A B:Type}[Inhabited A][Inhabited B]{f:A→B}{l:List A}{k:Nat}(h:k<l.length):rd (l.map f) (k:Int)=f (rd l (k:Int)):=by
 simp [rd,List.getD_eq_getElem?_getD,h]
theorem PM1.wd {n:Nat}{rs:List Rule}{lv:Int→Int}{N:Sp}{w w':Nat→Int}{i j:Nat}{has:Int→Prop}(h:PM1 n rs lv (HS N w i j) has)(hw:∀ k,k<j→w k=w' k):PM1 n rs lv (HS N w' i j) has:=by
 have a:∀ {M:Int→Prop} {r:Rule},HS N w i j M r→HS N w' i j M r:=fun hH=>RuleS_word hw hH
 have b:∀ {M:Int→Prop} {r:Rule},HS N w' i j M r→HS N w i j M r:=fun hH=>RuleS_word (fun k hk=>(hw k hk).symm) hH
 exact ⟨fun r hr hH=>h.cl r hr (b hH),fun x x1 x2 hx=>let ⟨r,hr,e,hH⟩:=h.su x x1 x2 hx;⟨r,hr,e,a hH⟩,fun t M hM hc=>h.mi t M hM fun r hr ht hH=>hc r hr ht (a hH)⟩
end Go.Proofs.YtcoineklodmbnaaGreat

