import Derived.Test.YtgmnohjaciemmaaW6
namespace Go.Proofs.Ytgmnohjaciemmaa
open S Go.Sort
set_option linter.unusedVariables false
set_option linter.unusedSimpArgs false
set_option maxRecDepth 100000
theorem mput_keys {κ ν:Type} [DecidableEq κ] {es:List (κ×ν)} {k:κ} {v:ν}:∀ e,e ∈ (mput es k v).map (·.1)↔e ∈ es.map (·.1)∨e=k:=by
 induction es with
 | nil=>intro e;simp [mput]
 | cons p es ih =>
  intro e
  rw [mput]
  split
  ·rename_i h;subst h;simp only [List.map_cons,List.mem_cons]
   constructor
   ·rintro (h | h)
    ·exact .inl (.inl h)
    ·exact .inl (.inr h)
   ·rintro ((h | h) | h)
    ·exact .inl h
    ·exact .inr h
    ·exact .inl h
  ·simp only [List.map_cons,List.mem_cons,ih e]
   constructor
   ·rintro (h | h | h)
    ·exact .inl (.inl h)
    ·exact .inl (.inr h)
    ·exact .inr h
   ·rintro ((h | h) | h)
    ·exact .inl h
    ·exact .inr (.inl h)
    ·exact .inr (.inr h)
theorem mput_nodup {κ ν:Type} [DecidableEq κ] {es:List (κ×ν)} {k:κ} {v:ν} (h:(es.map (·.1)).Nodup):((mput es k v).map (·.1)).Nodup:=by
 induction es with
 | nil=>simp [mput]
 | cons p es ih =>
  rw [List.map_cons,List.nodup_cons] at h
  rw [mput]
  split
  ·rename_i hp;subst hp;simp only [List.map_cons,List.nodup_cons];exact h
  ·rename_i hp
   simp only [List.map_cons,List.nodup_cons]
   refine ⟨fun hm=>?_,ih h.2⟩
   rcases (mput_keys _).1 hm with hm | hm
   ·exact h.1 hm
   ·exact hp hm
def KW:Nat:=140737488355328
theorem take_snoc {T:Type} [Inhabited T] {xs:List T} {i:Nat} (hi:i<xs.length):xs.take i++[rd xs (i:Int)]=xs.take (i+1):=by
 have e:rd xs (i:Int)=xs[i]:=by rw [rd_nat,List.getD_eq_getElem?_getD,List.getElem?_eq_getElem hi];rfl
 rw [e,List.take_append_getElem]
theorem appLoop {T:Type} {n c B:Nat} {L:Nat→List T×Int→Option (List T×Int)} (f:Nat→List T) (hf:∀ i,(f i).length≤c) (step:∀ m s i,i<n→s.length+c≤B→L (m+1) (s,(i:Int))=L m (s++f i,(i:Int)+1))
  (stop:∀ m s,L (m+1) (s,(n:Int))=some (s,(n:Int))) (m:Nat) (hm:n<m) (s:List T) (hs:s.length+n*c≤B):L m (s,0)=some (s++(List.range n).flatMap f,(n:Int)):=by
 have key:∀ k i s m,i+k=n→k<m→s.length+k*c≤B→L m (s,(i:Int))=some (s++(List.range' i k).flatMap f,(n:Int)):=by
  intro k
  induction k with
  | zero =>
   intro i s m hi hm hs
   obtain ⟨m,rfl⟩:∃ q,m=q+1:=⟨m-1,by omega⟩
   have:i=n:=by omega
   subst this
   rw [stop];simp
  | succ k ih =>
   intro i s m hi hm hs
   obtain ⟨m,rfl⟩:∃ q,m=q+1:=⟨m-1,by omega⟩
   rw [Nat.add_mul] at hs
   have hfi:=hf i
   rw [step m s i (by omega) (by omega),List.range'_succ,List.flatMap_cons,← List.append_assoc]
   have:=ih (i+1) (s++f i) m (by omega) (by omega) (by rw [List.length_append];omega)
   simpa using this
 have:=key n 0 s m (by omega) hm hs
 rw [List.range_eq_range']
 simpa using this
theorem chain_mem {n:Int}:∀ {rs:List Rule} {h:Int},chainP n h rs→∀ r ∈ rs,h≤r.Head∧r.Head≤n-1∧ruleP n r
 | [],h,hc,r,hr=>by cases hr
 | q::rs,h,hc,r,hr=>by
  rw [chainP] at hc
  have hl:=chain_le hc.2.2
  rcases List.mem_cons.1 hr with rfl | hr
  ·exact ⟨by omega,hl,hc.1⟩
  ·have:=chain_mem hc.2.2 r hr
   exact ⟨by omega,this.2.1,this.2.2⟩
theorem may_heads {g:Grammar} (h:mayP g):∀ r ∈ g.Rules,0≤r.Head∧r.Head<(g.Names.length:Int)∧ruleP (g.Names.length:Int) r:=by
 obtain ⟨_,_,_,h1,_,h2,h3,_⟩:=h
 cases hr:g.Rules with
 | nil=>rw [hr] at h1;simp at h1
 | cons r0 rs =>
  rw [hr] at h2 h3
  have h4:r0.Head=0:=h2
  rw [chainP] at h3
  intro r hm
  have hl:=chain_le h3.2.2
  rcases List.mem_cons.1 hm with rfl | hm
  ·exact ⟨by omega,by omega,h3.1⟩
  ·have:=chain_mem h3.2.2 r hm
   exact ⟨by omega,by omega,this.2.2⟩
theorem may_bd {g:Grammar} (h:mayP g):Bd g:=⟨h.2.2.2.2.1,fun r hr=>⟨(may_heads h r hr).2.2.2.1,fun c hc=>((may_heads h r hr).2.2.2.2 c hc).1⟩⟩
end Go.Proofs.Ytgmnohjaciemmaa

namespace Go.Proofs.Ytgmnohjaciemmaa
open S Go.Sort
set_option linter.unusedVariables false
set_option linter.unusedSimpArgs false
set_option maxRecDepth 100000
abbrev seqOf (g:Grammar) (p:Place):List Symbol:=(rd (rd g.Rules p.Rule).Conj p.Conj).Seq
def okP (g:Grammar) (p:Place):Prop:=0≤p.Rule∧p.Rule<(g.Rules.length:Int)∧0≤p.Conj∧p.Conj<((rd g.Rules p.Rule).Conj.length:Int)∧0≤p.Pos∧p.Pos≤((seqOf g p).length:Int)
instance (g:Grammar) (p:Place):Decidable (okP g p):=by unfold okP;infer_instance
def Nm (g:Grammar) (p:Place) (n:Int):Prop:=p.Pos<((seqOf g p).length:Int)∧(rd (seqOf g p) p.Pos).Name=n∧0≤n
def begR (g:Grammar) (n:Int) (r:Nat):List Place:=if (rd g.Rules (r:Int)).Head=n then (List.range (rd g.Rules (r:Int)).Conj.length).map fun (c:Nat)=>(⟨(r:Int),(c:Int),0⟩:Place) else []
def begs (g:Grammar) (n:Int):List Place:=(List.range g.Rules.length).flatMap (begR g n)
theorem mem_begs {g:Grammar} {n:Int} {p:Place}:p ∈ begs g n↔0≤p.Rule∧p.Rule<(g.Rules.length:Int)∧(rd g.Rules p.Rule).Head=n∧0≤p.Conj∧p.Conj<((rd g.Rules p.Rule).Conj.length:Int)∧p.Pos=0:=by
 unfold begs begR
 simp only [List.mem_flatMap,List.mem_range]
 constructor
 ·rintro ⟨r,hr,h⟩
  split at h
  ·rename_i hh
   simp only [List.mem_map,List.mem_range] at h
   obtain ⟨c,hc,rfl⟩:=h
   exact ⟨by simp,by simp;omega,hh,by simp,by simp;omega,rfl⟩
  ·cases h
 ·rintro ⟨h1,h2,h3,h4,h5,h6⟩
  refine ⟨p.Rule.toNat,by omega,?_⟩
  have e:((p.Rule.toNat:Nat):Int)=p.Rule:=Int.toNat_of_nonneg h1
  rw [e,if_pos h3]
  simp only [List.mem_map,List.mem_range]
  refine ⟨p.Conj.toNat,by omega,?_⟩
  have e2:((p.Conj.toNat:Nat):Int)=p.Conj:=Int.toNat_of_nonneg h4
  cases p
  simp only [Place.mk.injEq] at *
  exact ⟨trivial,e2,h6.symm⟩
theorem begs_ok {g:Grammar} {n:Int} {p:Place} (h:p ∈ begs g n):okP g p:=by
 obtain ⟨h1,h2,_,h4,h5,h6⟩:=mem_begs.1 h
 exact ⟨h1,h2,h4,h5,by omega,by rw [h6];omega⟩
theorem begR_len {g:Grammar} (hg:Bd g) (n:Int) (r:Nat) (hr:r<g.Rules.length):(begR g n r).length≤8:=by
 unfold begR
 split
 ·rw [List.length_map,List.length_range]
  exact (hg.2 _ (rd_mem (Int.natCast_nonneg r) (by omega))).1
 ·simp
theorem begs_len {g:Grammar} (hg:Bd g) (n:Int):(begs g n).length≤2048:=by
 have:∀ l:List Nat,(∀ r ∈ l,r<g.Rules.length)→(l.flatMap (begR g n)).length≤l.length*8:=by
  intro l
  induction l with
  | nil=>simp
  | cons r l ih =>
   intro h
   have h1:=begR_len hg n r (h r (.head _))
   have h2:=ih fun q hq=>h q (.tail _ hq)
   rw [List.flatMap_cons,List.length_append,List.length_cons,Nat.add_mul];omega
 have h1:=this (List.range g.Rules.length) fun r hr=>by simpa using hr
 rw [List.length_range] at h1
 have:=hg.1
 unfold begs;omega
theorem begins_l1 (K:Nat) (hK:1000≤K) (g:Grammar) (hg:Bd g) (r:Nat) (hr:r<g.Rules.length) (s:List Place) (hs:s.length+8≤100000):f2.l1 K g r K (s,0)=some (s++(List.range (rd g.Rules (r:Int)).Conj.length).map (fun (c:Nat)=>(⟨(r:Int),(c:Int),0⟩:Place)),((rd g.Rules (r:Int)).Conj.length:Int)):=by
 have h8:=(hg.2 _ (rd_mem (Int.natCast_nonneg r) (by omega))).1
 have:=appLoop (n:=(rd g.Rules (r:Int)).Conj.length) (c:=1) (B:=100000) (L:=f2.l1 K g r) (fun (c:Nat)=>[(⟨(r:Int),(c:Int),0⟩:Place)]) (fun _=>by simp) (fun m s c hc hs=>by
  simp only [f2.l1]
  rw [if_pos (by omega),if_pos (by simp only [List.length_cons,List.length_nil];omega),wr (a:=(c:Int)+1) (by omega) (by omega)]) (fun m s=>by simp only [f2.l1];rw [if_neg (by omega)]) K (by omega) s (by omega)
 rw [this]
 congr 3
 induction (List.range (rd g.Rules (r:Int)).Conj.length) with
 | nil=>rfl
 | cons a l ih=>simp [ih]
theorem begins_spec (K:Nat) (hK:1000≤K) (g:Grammar) (hg:Bd g) (n:Int):f2 K g n=some (begs g n):=by
 have h256:=hg.1
 unfold f2
 have:=appLoop (n:=g.Rules.length) (c:=8) (B:=90000) (L:=f2.l0 K g n) (fun r=>if r<g.Rules.length then begR g n r else []) (fun r=>by
  split
  ·exact begR_len hg n r (by assumption)
  ·simp) (fun m s r hr hs=>by
  simp only [f2.l0]
  rw [if_pos (by omega),if_pos (Int.natCast_nonneg r),wr (a:=(r:Int)+1) (by omega) (by omega),if_pos hr]
  unfold begR
  by_cases h:(rd g.Rules (r:Int)).Head=n
  ·rw [if_neg (fun x=>x h),if_pos h,begins_l1 K hK g hg r hr s (by omega),Option.bind_some]
  ·rw [if_pos h,if_neg h,List.append_nil]) (fun m s=>by simp only [f2.l0];rw [if_neg (by omega)]) K (by omega) [] (by simp only [List.length_nil];omega)
 rw [this,Option.bind_some,List.nil_append]
 unfold begs
 have:∀ l:List Nat,(∀ r ∈ l,r<g.Rules.length)→l.flatMap (fun r=>if r<g.Rules.length then begR g n r else [])=l.flatMap (begR g n):=by
  intro l
  induction l with
  | nil=>intro _;rfl
  | cons r l ih=>intro h;rw [List.flatMap_cons,List.flatMap_cons,if_pos (h r (.head _)),ih fun q hq=>h q (.tail _ hq)]
 exact congrArg some (this (List.range g.Rules.length) fun r hr=>List.mem_range.1 hr)
theorem itSym_spec (K:Nat) (g:Grammar) (p:Place) (h:okP g p):m7 K g p=some (if p.Pos=((seqOf g p).length:Int) then ((⟨0,0,0⟩:Symbol),false) else (rd (seqOf g p) p.Pos,true)):=by
 obtain ⟨h1,h2,h3,h4,h5,h6⟩:=h
 unfold m7
 rw [if_pos h1,if_pos h2,if_pos h3,if_pos h4]
 by_cases e:p.Pos=((seqOf g p).length:Int)
 ·rw [if_pos e,if_pos e]
 ·rw [if_neg e,if_neg e,if_pos h5,if_pos (show p.Pos<((seqOf g p).length:Int) by omega)]
def ltP (a b:Place):Prop:=a.Rule<b.Rule∨(a.Rule=b.Rule∧(a.Conj<b.Conj∨(a.Conj=b.Conj∧a.Pos<b.Pos)))
theorem ltP_irr {a b:Place} (h:ltP a b):a≠b:=fun e=>by subst e;unfold ltP at h;omega
theorem ltP_trans {a b c:Place} (h:ltP a b) (h':ltP b c):ltP a c:=by unfold ltP at *;omega
theorem ltP_or (a b:Place):ltP a b∨a=b∨ltP b a:=by
 unfold ltP
 cases a with | mk a1 a2 a3=>cases b with | mk b1 b2 b3 =>
 simp only [Place.mk.injEq]
 omega
theorem rising_nodup {ps:List Place} (h:ps.Pairwise ltP):ps.Nodup:=h.imp fun h=>ltP_irr h
theorem rising_uniq {ps qs:List Place} (h:ps.Pairwise ltP) (h':qs.Pairwise ltP) (hm:∀ p,p ∈ ps↔p ∈ qs):ps=qs:=by
 refine perm_unique (r:=fun x y=>(!(ltOf rowP y x))=true) (fun x y h1 h2=>rowP_anti _ _ (by simpa using h2) (by simpa using h1)) ((List.perm_ext_iff_of_nodup (rising_nodup h) (rising_nodup h')).2 hm) (h.imp fun {x y} h=>?_) (h'.imp fun {x y} h=>?_)
 all_goals
  have h1:=(rowP_lt x y).2 h
  cases h2:ltOf rowP y x with
  | false=>rfl
  | true=>have:=rowP_swo.trans _ _ _ h1 h2;rw [rowP_swo.irrefl] at this;cases this
theorem sort_rising {ps:List Place} (h:ps.Nodup):(sortL rowP ps).Pairwise ltP∧∀ p,p ∈ sortL rowP ps↔p ∈ ps:=by
 have hp:(sortL rowP ps).Perm ps:=List.mergeSort_perm _ _
 have h1:(sortL rowP ps).Pairwise fun x y=>(!(ltOf rowP y x))=true:=by
  refine List.pairwise_mergeSort (fun a b c h1 h2=>?_) (fun a b=>?_) _
  ·have:=rowP_swo.ntrans c b a (by simpa using h2) (by simpa using h1)
   simpa using this
  ·by_cases h:ltOf rowP b a=true
   ·have:ltOf rowP a b=false:=by
     cases hab:ltOf rowP a b with
     | false=>rfl
     | true=>have:=rowP_swo.trans _ _ _ h hab;rw [rowP_swo.irrefl] at this;cases this
    simp [this]
   ·simp [h]
 refine ⟨(h1.and (hp.nodup_iff.2 h)).imp fun {x y} ⟨h2,h3⟩=>?_,fun p=>hp.mem_iff⟩
 rcases ltP_or x y with h4 | h4 | h4
 ·exact h4
 ·exact (h3 h4).elim
 ·have:=(rowP_lt y x).2 h4
  rw [this] at h2;cases h2
theorem nodup_lt:∀ (n:Nat) (l:List Nat),l.Nodup→(∀ x ∈ l,x<n)→l.length≤n:=by
 intro n
 induction n with
 | zero=>intro l _ h;cases l with
  | nil=>simp
  | cons a l=>exact absurd (h a (.head _)) (Nat.not_lt_zero _)
 | succ n ih =>
  intro l hl h
  have h1:=ih (l.filter fun x=>x != n) (hl.filter _) fun x hx=>by
   simp at hx
   have:=h x hx.1
   omega
  have h2:l.length≤(l.filter fun x=>x != n).length+1:=by
   clear h1 h ih
   induction l with
   | nil=>simp
   | cons a l ih =>
    rw [List.nodup_cons] at hl
    by_cases e:a=n
    ·subst e
     have:(l.filter fun x=>x != a)=l:=List.filter_eq_self.2 fun x hx=>by
      have:x≠a:=fun e=>hl.1 (e ▸ hx)
      simpa using this
     simp [this]
    ·have:=ih hl.2
     simp [e];omega
  omega
def numP (p:Place):Nat:=p.Rule.toNat*1024+p.Conj.toNat*128+p.Pos.toNat
theorem ok_small {g:Grammar} (hg:Bd g) {p:Place} (h:okP g p):0≤p.Rule∧p.Rule<256∧0≤p.Conj∧p.Conj<8∧0≤p.Pos∧p.Pos≤64:=by
 obtain ⟨h1,h2,h3,h4,h5,h6⟩:=h
 have a1:=hg.1
 have a2:=hg.2 _ (rd_mem h1 h2)
 have a3:=a2.2 _ (rd_mem h3 h4)
 have a4:=a2.1
 have h6':p.Pos≤((rd (rd g.Rules p.Rule).Conj p.Conj).Seq.length:Int):=h6
 exact ⟨h1,by omega,h3,by omega,h5,by omega⟩
theorem places_len {g:Grammar} (hg:Bd g) {ps:List Place} (hn:ps.Nodup) (h:∀ p ∈ ps,okP g p):ps.length≤262144:=by
 have:=nodup_lt 262144 (ps.map numP) (List.pairwise_map.2 (hn.imp_of_mem fun {x y} hx hy hne e=>hne (by
  have a:=ok_small hg (h x hx)
  have b:=ok_small hg (h y hy)
  unfold numP at e
  cases x with | mk x1 x2 x3=>cases y with | mk y1 y2 y3 =>
  simp only [Place.mk.injEq] at *
  omega))) fun q hq=>by
  obtain ⟨p,hp,rfl⟩:=List.mem_map.1 hq
  have:=ok_small hg (h p hp)
  unfold numP;omega
 simpa using this
inductive Cl (g:Grammar) (ps:List Place):Place→Prop
 | base {p:Place}:p ∈ ps→Cl g ps p
 | step {q p:Place} {n:Int}:Cl g ps q→Nm g q n→p ∈ begs g n→Cl g ps p
theorem Cl.ok {g:Grammar} {ps:List Place} (h:∀ p ∈ ps,okP g p) {p:Place} (hc:Cl g ps p):okP g p:=by
 cases hc with
 | base h1=>exact h p h1
 | step _ _ h1=>exact begs_ok h1
def IsCl (g:Grammar) (ps out:List Place):Prop:=out.Pairwise ltP∧∀ p,p ∈ out↔Cl g ps p
theorem IsCl.uniq {g:Grammar} {ps a b:List Place} (h:IsCl g ps a) (h':IsCl g ps b):a=b:=rising_uniq h.1 h'.1 fun p=>(h.2 p).trans (h'.2 p).symm
theorem IsCl.of {g:Grammar} {ps out:List Place} (h1:out.Pairwise ltP) (h2:∀ p ∈ ps,p ∈ out) (h3:∀ p ∈ out,Cl g ps p) (h4:∀ q ∈ out,∀ n,Nm g q n→∀ p ∈ begs g n,p ∈ out):IsCl g ps out :=
 ⟨h1,fun p=>⟨h3 p,fun h=>by
  induction h with
  | base h=>exact h2 _ h
  | step _ hn hp ih=>exact h4 _ ih _ hn _ hp⟩⟩
end Go.Proofs.Ytgmnohjaciemmaa

namespace Go.Proofs.Ytgmnohjaciemmaa
open S Go.Sort
set_option linter.unusedVariables false
set_option linter.unusedSimpArgs false
set_option maxRecDepth 100000
abbrev nmAt (g:Grammar) (p:Place):Int:=(rd (seqOf g p) p.Pos).Name
theorem Nm_iff {g:Grammar} {p:Place} {n:Int}:Nm g p n↔p.Pos<((seqOf g p).length:Int)∧n=nmAt g p∧0≤nmAt g p:=by
 unfold Nm
 constructor
 ·rintro ⟨h1,h2,h3⟩;exact ⟨h1,h2.symm,by rw [← h2] at h3;exact h3⟩
 ·rintro ⟨h1,rfl,h3⟩;exact ⟨h1,rfl,h3⟩
theorem nm_bound {g:Grammar} (hm:mayP g) {p:Place} (hp:okP g p) {n:Int} (h:Nm g p n):0≤n∧n<(g.Names.length:Int):=by
 obtain ⟨h1,h2,h3⟩:=h
 have a:=may_heads hm _ (rd_mem hp.1 hp.2.1)
 have b:symP (rd (seqOf g p) p.Pos) (g.Names.length:Int):=(a.2.2.2.2 _ (rd_mem hp.2.2.1 hp.2.2.2.1)).2 _ (rd_mem hp.2.2.2.2.1 h1)
 refine ⟨h3,?_⟩
 unfold symP at b
 rw [h2] at b
 omega
theorem names64 {g:Grammar} (hm:mayP g):g.Names.length≤64:=hm.1.2.1
theorem cl_step (K:Nat) (hK:1000≤K) (g:Grammar) (hg:Bd g) (m:Nat) (ys:List Place) (p:Place) (c:List (Int×Bool)) (s:List (Place×Bool)) (hp:okP g p) (hl:ys.length≤9000000000000000000) :
  V2.l0 K g (m+1) (ys++[p],c,s)=if p.Pos<((seqOf g p).length:Int)∧0≤nmAt g p∧mgetD false c (nmAt g p)=false then (if ((ys.length+(begs g (nmAt g p)).length)+(ys.length+(begs g (nmAt g p)).length) / 4+192)*24≤281474976710656 then V2.l0 K g m (ys++begs g (nmAt g p),mput c (nmAt g p) true,mput s p true) else none) else V2.l0 K g m (ys,c,mput s p true):=by
 simp only [V2.l0]
 have e0:(((ys++[p]).length:Nat):Int)=(ys.length:Int)+1:=by simp
 have e1:IntKind.wrap .i64 ((((ys++[p]).length:Nat):Int)-1)=(ys.length:Int):=by rw [e0,wr (by omega) (by omega)];omega
 have e2:rd (ys++[p]) (ys.length:Int)=p:=by rw [rd_nat];simp
 have e3:(ys++[p]).take ((ys.length:Int)).toNat=ys:=by simp
 rw [e1,e2,e3,e0,if_pos (by omega),if_pos (by omega),if_pos (by omega),if_pos (by omega)]
 have e4:(⟨p.Rule,p.Conj,p.Pos⟩:Place)=p:=rfl
 rw [e4,itSym_spec K g p hp,Option.bind_some]
 have h5:=hp.2.2.2.2.2
 by_cases h1:p.Pos=((seqOf g p).length:Int)
 ·rw [if_pos h1,if_neg (show ¬ (false=true) by decide),if_neg (fun h=>by omega)]
 rw [if_neg h1]
 simp only [if_true]
 by_cases h2:0≤nmAt g p
 ·rw [if_pos h2]
  by_cases h3:mgetD false c (nmAt g p)=false
  ·rw [if_pos (show (!(mgetD false c (nmAt g p)))=true by rw [h3];rfl),begins_spec K hK g hg,Option.bind_some,if_pos (show p.Pos<((seqOf g p).length:Int)∧0≤nmAt g p∧mgetD false c (nmAt g p)=false from ⟨by omega,h2,h3⟩)]
  ·rw [if_neg (show ¬ (!(mgetD false c (nmAt g p)))=true by simpa using h3),if_neg fun h=>h3 h.2.2]
 ·rw [if_neg h2,if_neg fun h=>h2 h.2.1]
def un (c:List (Int×Bool)):Nat:=((List.range 64).filter fun (n:Nat)=>!(mgetD false c (n:Int))).length
theorem filter_lt {α:Type} {p q:α→Bool}:∀ {l:List α} (x:α),x ∈ l→p x=true→q x=false→(∀ y,q y=true→p y=true)→(l.filter q).length+1≤(l.filter p).length
 | [],x,h,_,_,_=>by cases h
 | a::l,x,h,h1,h2,h3=>by
  have le:∀ l:List α,(l.filter q).length≤(l.filter p).length:=fun l=>by
   induction l with
   | nil=>simp
   | cons a l ih =>
    by_cases hq:q a=true
    ·simp [hq,h3 a hq,ih]
    ·by_cases hp:p a=true <;> simp [hq,hp] <;> omega
  rcases List.mem_cons.1 h with rfl | h
  ·have:=le l
   simp [h1,h2];omega
  ·have:=filter_lt x h h1 h2 h3
   by_cases hq:q a=true
   ·simp [hq,h3 a hq];omega
   ·by_cases hp:p a=true <;> simp [hq,hp] <;> omega
theorem un_mput {c:List (Int×Bool)} {n:Int} (h0:0≤n) (h1:n<64) (h:mgetD false c n=false):un (mput c n true)+1≤un c:=by
 unfold un
 refine filter_lt n.toNat (by simp;omega) (by rw [Int.toNat_of_nonneg h0,h];rfl) (by rw [Int.toNat_of_nonneg h0];simp [mgetD_mput]) fun y hy=>?_
 simp only [Bool.not_eq_true'] at *
 cases hc:mgetD false c (y:Int) with
 | false=>rfl
 | true=>have:=mgetD_mput.2 (.inr hc:(y:Int)=n∨mgetD false c (y:Int)=true);rw [hy] at this;cases this
abbrev ks (s:List (Place×Bool)):List Place:=s.map (·.1)
structure CI (g:Grammar) (ps:List Place) (xs:List Place) (c:List (Int×Bool)) (s:List (Place×Bool)):Prop where
 i1:∀ p ∈ xs,Cl g ps p
 i2:∀ p ∈ ks s,Cl g ps p
 i3:∀ p ∈ ps,p ∈ ks s∨p ∈ xs
 i4:∀ q ∈ ks s,∀ n,Nm g q n→mgetD false c n=true
 i5:∀ n,mgetD false c n=true→∀ p ∈ begs g n,p ∈ ks s∨p ∈ xs
 i6:(ks s).Nodup
 i7:xs.length+2049*un c≤ps.length+2049*64
theorem closedP (K:Nat) (hK:KW≤K) (g:Grammar) (hm:mayP g) (ps:List Place) (hp:∀ p ∈ ps,okP g p) (hl:ps.length*24≤140737488351232):∃ out,V2 K g ps=some out∧IsCl g ps out:=by
 have hg:=may_bd hm
 have hn64:=names64 hm
 unfold KW at hK
 have hloop:=rounds (L:=V2.l0 K g) (fun s=>CI g ps s.1 s.2.1 s.2.2) (fun s=>s.1.length+2049*un s.2.1) (fun r=>CI g ps [] r.2.1 r.2.2) (fun s m hI=>by
  obtain ⟨xs,c,s⟩:=s
  rcases List.eq_nil_or_concat xs with rfl | ⟨ys,p,rfl⟩
  ·refine .inl ⟨([],c,s),?_,hI⟩
   simp only [V2.l0];rw [if_neg (by simp)]
  rw [List.concat_eq_append] at *
  refine .inr ?_
  have hcl:=hI.i1 p (by simp)
  have hpk:=hcl.ok hp
  have h7:=hI.i7
  simp only [List.length_append,List.length_cons,List.length_nil] at h7
  rw [cl_step K (by omega) g hg m ys p c s hpk (by omega)]
  have hk:∀ q,q ∈ ks (mput s p true)↔q ∈ ks s∨q=p:=fun q=>mput_keys q
  by_cases h:p.Pos<((seqOf g p).length:Int)∧0≤nmAt g p∧mgetD false c (nmAt g p)=false
  ·have hN:Nm g p (nmAt g p):=Nm_iff.2 ⟨h.1,rfl,h.2.1⟩
   have hb:=nm_bound hm hpk hN
   have hu:=un_mput hb.1 (by omega) h.2.2
   have hbl:=begs_len hg (nmAt g p)
   rw [if_pos h,if_pos (by omega)]
   refine ⟨_,⟨fun q hq=>?_,fun q hq=>?_,fun q hq=>?_,fun q hq n hn=>?_,fun n hn q hq=>?_,mput_nodup hI.i6,?_⟩,?_,rfl⟩
   ·rcases List.mem_append.1 hq with hq | hq
    ·exact hI.i1 q (by simp [hq])
    ·exact .step hcl hN hq
   ·rcases (hk q).1 hq with hq | rfl
    ·exact hI.i2 q hq
    ·exact hcl
   ·simp only [hk]
    rcases hI.i3 q hq with h1 | h1
    ·exact .inl (.inl h1)
    ·simp at h1
     rcases h1 with h1 | h1
     ·exact .inr (by simp [h1])
     ·exact .inl (.inr h1)
   ·rcases (hk q).1 hq with hq | rfl
    ·exact mgetD_mput.2 (.inr (hI.i4 q hq n hn))
    ·exact mgetD_mput.2 (.inl (Nm_iff.1 hn).2.1)
   ·simp only [hk]
    rcases mgetD_mput.1 hn with rfl | hn
    ·exact .inr (by simp [hq])
    ·rcases hI.i5 n hn q hq with h1 | h1
     ·exact .inl (.inl h1)
     ·simp at h1
      rcases h1 with h1 | h1
      ·exact .inr (by simp [h1])
      ·exact .inl (.inr h1)
   ·simp only [List.length_append];omega
   ·simp only [List.length_append,List.length_cons,List.length_nil];omega
  ·rw [if_neg h]
   refine ⟨_,⟨fun q hq=>hI.i1 q (by simp [show q ∈ ys from hq]),fun q hq=>?_,fun q hq=>?_,fun q hq n hn=>?_,fun n hn q hq=>?_,mput_nodup hI.i6,?_⟩,?_,rfl⟩
   ·rcases (hk q).1 hq with hq | rfl
    ·exact hI.i2 q hq
    ·exact hcl
   ·simp only [hk]
    rcases hI.i3 q hq with h1 | h1
    ·exact .inl (.inl h1)
    ·simp at h1
     rcases h1 with h1 | h1
     ·exact .inr h1
     ·exact .inl (.inr h1)
   ·rcases (hk q).1 hq with hq | rfl
    ·exact hI.i4 q hq n hn
    ·obtain ⟨h1,h2,h3⟩:=Nm_iff.1 hn
     subst h2
     cases hc:mgetD false c (nmAt g q) with
     | true=>rfl
     | false=>exact (h ⟨h1,h3,hc⟩).elim
   ·simp only [hk]
    rcases hI.i5 n hn q hq with h1 | h1
    ·exact .inl (.inl h1)
    ·simp at h1
     rcases h1 with h1 | h1
     ·exact .inr h1
     ·exact .inl (.inr h1)
   ·show ys.length+2049*un c≤_;omega
   ·simp only [List.length_append,List.length_cons,List.length_nil];omega)
 have hun0:un []≤64:=by unfold un;refine Nat.le_trans (List.length_filter_le _ _) ?_;simp
 obtain ⟨⟨xs',c',s'⟩,h1,h2⟩:=hloop K (ps,[],[]) ⟨fun p hp=>.base hp,by simp,fun p hp=>.inr hp,by simp,fun n hn=>(by cases hn),by simp,by show ps.length+2049*un []≤_;omega⟩ (by show ps.length+2049*un []<K;omega)
 have hok:∀ p ∈ ks s',okP g p:=fun p hpk=>(h2.i2 p hpk).ok hp
 have hlen:=places_len hg h2.i6 hok
 rw [List.length_map] at hlen
 unfold V2 slices_Clone_api_Place_api_Place
 rw [if_pos (by simp only [List.length_nil];omega),Option.bind_some,List.nil_append,h1,Option.bind_some]
 show ∃ out,(if 10≤K then if s'.length*24≤140737488355328 then some (sortL rowP (ks s')) else none else none)=some out∧_
 have hlen':s'.length≤262144:=hlen
 rw [if_pos (by omega),if_pos (by omega)]
 obtain ⟨g1,g2⟩:=sort_rising h2.i6
 refine ⟨_,rfl,IsCl.of g1 (fun p hpp=>(g2 p).2 ?_) (fun p hpp=>h2.i2 p ((g2 p).1 hpp)) fun q hq n hn p hpp=>(g2 p).2 ?_⟩
 ·rcases h2.i3 p hpp with h | h
  ·exact h
  ·cases h
 ·rcases h2.i5 n (h2.i4 q ((g2 q).1 hq) n hn) p hpp with h | h
  ·exact h
  ·cases h
end Go.Proofs.Ytgmnohjaciemmaa

namespace Go.Proofs.Ytgmnohjaciemmaa
open S Go.Sort
set_option linter.unusedVariables false
set_option linter.unusedSimpArgs false
set_option maxRecDepth 100000
theorem brk_l {σ ρ:Type} (s:σ) (X:σ→Option ρ):brk (some (.inl s):Option (σ ⊕ ρ)) X=X s:=rfl
theorem brk_r {σ ρ:Type} (r:ρ) (X:σ→Option ρ):brk (some (.inr r):Option (σ ⊕ ρ)) X=some r:=rfl
theorem sl_take {T:Type} (xs:List T) (c:Nat):sl xs 0 (c:Int)=xs.take c:=by simp [sl]
theorem sl_drop {T:Type} (xs:List T) (c:Nat):sl xs (c:Int) (xs.length:Int)=xs.drop c:=by simp [sl]
theorem stop_loop {n K:Nat} {L:Nat→Int→Option Int} {q:Nat→Prop} (hn:n<K) (step:∀ m i,i<n→(q i∧L (m+1) (i:Int)=L m ((i:Int)+1))∨(¬ q i∧L (m+1) (i:Int)=some (i:Int)))
  (stop:∀ m,L (m+1) (n:Int)=some (n:Int)):∃ k:Nat,k≤n∧L K 0=some (k:Int)∧(∀ j,j<k→q j)∧(k<n→¬ q k):=by
 have key:∀ k i m,i+k=n→k<m→(∀ j,j<i→q j)→∃ k:Nat,k≤n∧L m (i:Int)=some (k:Int)∧(∀ j,j<k→q j)∧(k<n→¬ q k):=by
  intro k
  induction k with
  | zero =>
   intro i m hi hm hq
   obtain ⟨m,rfl⟩:∃ q,m=q+1:=⟨m-1,by omega⟩
   have:i=n:=by omega
   subst this
   exact ⟨i,Nat.le_refl _,stop m,hq,fun h=>by omega⟩
  | succ k ih =>
   intro i m hi hm hq
   obtain ⟨m,rfl⟩:∃ q,m=q+1:=⟨m-1,by omega⟩
   rcases step m i (by omega) with ⟨hp,he⟩ | ⟨hp,he⟩
   ·rw [he]
    have:=ih (i+1) m (by omega) (by omega) fun j hj=>by
     rcases Nat.lt_succ_iff_lt_or_eq.1 hj with h | rfl
     ·exact hq j h
     ·exact hp
    rw [show ((i+1:Nat):Int)=(i:Int)+1 by omega] at this
    exact this
   ·exact ⟨i,by omega,he,hq,fun _=>hp⟩
 have:=key n 0 K (by omega) hn (fun j hj=>absurd hj (Nat.not_lt_zero _))
 rw [show ((0:Nat):Int)=0 from rfl] at this
 exact this
theorem invLoop {τ:Type} {n:Nat} (L:Nat→τ×Int→Option (τ×Int)) (I:Nat→τ→Prop) (step:∀ m s i,i<n→I i s→∃ s',L (m+1) (s,(i:Int))=L m (s',(i:Int)+1)∧I (i+1) s')
  (stop:∀ m s,L (m+1) (s,(n:Int))=some (s,(n:Int))) (m:Nat) (hm:n<m) (s:τ) (h0:I 0 s):∃ s',L m (s,0)=some (s',(n:Int))∧I n s':=by
 have key:∀ k i s m,i+k=n→k<m→I i s→∃ s',L m (s,(i:Int))=some (s',(n:Int))∧I n s':=by
  intro k
  induction k with
  | zero =>
   intro i s m hi hm h
   obtain ⟨m,rfl⟩:∃ q,m=q+1:=⟨m-1,by omega⟩
   have:i=n:=by omega
   subst this
   exact ⟨s,stop m s,h⟩
  | succ k ih =>
   intro i s m hi hm h
   obtain ⟨m,rfl⟩:∃ q,m=q+1:=⟨m-1,by omega⟩
   obtain ⟨s',h1,h2⟩:=step m s i (by omega) h
   rw [h1]
   have:=ih (i+1) s' m (by omega) (by omega) h2
   rw [show ((i+1:Nat):Int)=(i:Int)+1 by omega] at this
   exact this
 have:=key n 0 s m (by omega) hm h0
 rw [show ((0:Nat):Int)=0 from rfl] at this
 exact this
theorem mem_rd {T:Type} [Inhabited T] {xs:List T} {x:T}:x ∈ xs↔∃ i:Nat,i<xs.length∧x=rd xs (i:Int):=by
 constructor
 ·intro h
  obtain ⟨i,hi⟩:=List.getElem?_of_mem h
  have hl:=(List.getElem?_eq_some_iff.1 hi).1
  exact ⟨i,hl,by rw [rd_nat,List.getD_eq_getElem?_getD,hi];rfl⟩
 ·rintro ⟨i,hi,rfl⟩
  exact rd_mem (Int.natCast_nonneg i) (by omega)
theorem rising_rd {ps:List Place} (h:ps.Pairwise ltP) {i j:Nat} (hij:i<j) (hj:j<ps.length):ltP (rd ps (i:Int)) (rd ps (j:Int)):=by
 have:=List.pairwise_iff_getElem.1 h i j (by omega) hj hij
 rw [rd_nat,rd_nat,List.getD_eq_getElem?_getD,List.getD_eq_getElem?_getD,List.getElem?_eq_getElem (by omega),List.getElem?_eq_getElem hj]
 exact this
theorem before_spec (K:Nat) (a b:Place):∃ q,b7 K a b=some q∧(q=true↔ltP a b):=by
 unfold b7 ltP
 repeat' split
 all_goals refine ⟨_,rfl,?_⟩
 all_goals simp only [decide_eq_true_eq]
 all_goals omega
theorem insert_spec (K:Nat) (hK:1000000≤K) (ps:List Place) (p:Place) (hs:ps.Pairwise ltP) (hl:ps.length≤300000):∃ out,V3 K ps p=some out∧out.Pairwise ltP∧∀ q,q ∈ out↔q ∈ ps∨q=p:=by
 obtain ⟨k,hk,h1,h2,h3⟩:=stop_loop (n:=ps.length) (K:=K) (L:=V3.l0 K ps p) (q:=fun i=>ltP (rd ps (i:Int)) p) (by omega) (fun m i hi=>by
  obtain ⟨b,hb,hbq⟩:=before_spec K (rd ps (i:Int)) p
  simp only [V3.l0]
  rw [if_pos (by omega),if_pos (Int.natCast_nonneg i),hb,Option.bind_some,wr (a:=(i:Int)+1) (by omega) (by omega)]
  cases b with
  | true=>exact .inl ⟨hbq.1 rfl,rfl⟩
  | false=>exact .inr ⟨fun h=>(by have:=hbq.2 h;cases this),rfl⟩) (fun m=>by simp only [V3.l0];rw [if_neg (by omega)])
 unfold V3
 rw [h1,Option.bind_some]
 by_cases hkn:k<ps.length
 ·rw [if_pos (show (k:Int)<(ps.length:Int) by omega),if_pos (Int.natCast_nonneg k)]
  by_cases he:rd ps (k:Int)=p
  ·rw [if_pos he,brk_r]
   exact ⟨ps,rfl,hs,fun q=>⟨.inl,fun h=>h.elim id fun e=>by rw [e,← he];exact mem_rd.2 ⟨k,hkn,rfl⟩⟩⟩
  ·rw [if_neg he,brk_l,if_pos (Int.natCast_nonneg k),if_pos (by omega),sl_take,sl_drop]
   have hlt:(ps.take k).length≤ps.length:=by rw [List.length_take];omega
   have hld:(ps.drop k).length≤ps.length:=by rw [List.length_drop];omega
   rw [if_pos (by simp only [List.length_nil];omega),if_pos (by simp only [List.length_append,List.length_cons,List.length_nil];omega),if_pos (by simp only [List.length_append,List.length_cons,List.length_nil];omega)]
   have hpk:ltP p (rd ps (k:Int)):=by
    rcases ltP_or p (rd ps (k:Int)) with h | h | h
    ·exact h
    ·exact (he h.symm).elim
    ·exact (h3 hkn h).elim
   refine ⟨_,rfl,?_,fun q=>?_⟩
   ·have ht:∀ x ∈ ps.take k,∃ i:Nat,i<k∧x=rd ps (i:Int):=fun x hx=>by
     obtain ⟨i,hi,rfl⟩:=mem_rd.1 hx
     rw [List.length_take] at hi
     exact ⟨i,by omega,by rw [rd_nat,rd_nat,List.getD_eq_getElem?_getD,List.getD_eq_getElem?_getD,List.getElem?_take,if_pos (by omega)]⟩
    have hd:∀ x ∈ ps.drop k,∃ i:Nat,k≤i∧i<ps.length∧x=rd ps (i:Int):=fun x hx=>by
     obtain ⟨i,hi,rfl⟩:=mem_rd.1 hx
     rw [List.length_drop] at hi
     exact ⟨k+i,by omega,by omega,by rw [rd_nat,rd_nat,List.getD_eq_getElem?_getD,List.getD_eq_getElem?_getD,List.getElem?_drop]⟩
    rw [List.nil_append]
    refine List.pairwise_append.2 ⟨List.pairwise_append.2 ⟨hs.sublist (List.take_sublist _ _),by simp,fun x hx y hy=>?_⟩,hs.sublist (List.drop_sublist _ _),fun x hx y hy=>?_⟩
    ·simp at hy;subst hy
     obtain ⟨i,hi,rfl⟩:=ht x hx
     exact h2 i hi
    ·obtain ⟨j,hj1,hj2,rfl⟩:=hd y hy
     have hpj:ltP p (rd ps (j:Int)):=by
      rcases Nat.eq_or_lt_of_le hj1 with rfl | hj1
      ·exact hpk
      ·exact ltP_trans hpk (rising_rd hs hj1 hj2)
     rcases List.mem_append.1 hx with hx | hx
     ·obtain ⟨i,hi,rfl⟩:=ht x hx
      exact ltP_trans (h2 i hi) hpj
     ·simp at hx;subst hx;exact hpj
   ·have:ps.take k++ps.drop k=ps:=List.take_append_drop k ps
    have hq:q ∈ ps↔q ∈ ps.take k∨q ∈ ps.drop k:=by rw [← List.mem_append,this]
    rw [hq]
    simp only [List.nil_append,List.mem_append,List.mem_cons,List.not_mem_nil,or_false]
    constructor
    ·rintro ((h | h) | h)
     ·exact .inl (.inl h)
     ·exact .inr h
     ·exact .inl (.inr h)
    ·rintro ((h | h) | h)
     ·exact .inl (.inl h)
     ·exact .inr h
     ·exact .inl (.inr h)
 ·have hkn':k=ps.length:=by omega
  subst hkn'
  rw [if_neg (by omega),brk_l,if_pos (Int.natCast_nonneg _),if_pos (Int.le_refl _),sl_take,sl_drop,List.take_length,List.drop_length]
  rw [if_pos (by simp only [List.length_nil];omega),if_pos (by simp only [List.length_append,List.length_cons,List.length_nil];omega),if_pos (by simp only [List.length_append,List.length_cons,List.length_nil];omega)]
  refine ⟨_,rfl,?_,fun q=>by simp⟩
  rw [List.nil_append,List.append_nil]
  refine List.pairwise_append.2 ⟨hs,by simp,fun x hx y hy=>?_⟩
  simp at hy;subst hy
  obtain ⟨i,hi,rfl⟩:=mem_rd.1 hx
  exact h2 i hi
def RL (g:Grammar) (ps:List Place):Prop:=ps.Pairwise ltP∧∀ p ∈ ps,okP g p
theorem RL.len {g:Grammar} (hg:Bd g) {ps:List Place} (h:RL g ps):ps.length≤262144:=places_len hg (rising_nodup h.1) h.2
theorem begun_l1 (K:Nat) (hK:1000000≤K) (g:Grammar) (hg:Bd g) (n:Int) (r:Nat) (hr:r<g.Rules.length) (ps:List Place) (hs:RL g ps) :
  ∃ out q,f1.l1 K g n r K (ps,0)=some (out,q)∧RL g out∧∀ p,p ∈ out↔p ∈ ps∨p ∈ begR g n r:=by
 by_cases h:(rd g.Rules (r:Int)).Head=n
 ·have h8:=(hg.2 _ (rd_mem (Int.natCast_nonneg r) (by omega))).1
  obtain ⟨out,h1,h2,h3⟩:=invLoop (n:=(rd g.Rules (r:Int)).Conj.length) (f1.l1 K g n r) (fun j s=>RL g s∧∀ p,p ∈ s↔p ∈ ps∨∃ c:Nat,c<j∧p=⟨(r:Int),(c:Int),0⟩) (fun m s j hj hI=>by
   obtain ⟨out,h1,h2,h3⟩:=insert_spec K hK s (⟨(r:Int),(j:Int),0⟩:Place) hI.1.1 (by have:=hI.1.len hg;omega)
   refine ⟨out,?_,⟨h2,fun p hp=>?_⟩,fun p=>?_⟩
   ·simp only [f1.l1]
    rw [if_pos (Int.natCast_nonneg r),if_pos (by omega),if_pos h,h1,Option.bind_some,wr (a:=(j:Int)+1) (by omega) (by omega)]
   ·rcases (h3 p).1 hp with hp | rfl
    ·exact hI.1.2 p hp
    ·exact ⟨by simp,by simp;omega,by simp,by simp;omega,by simp,by simp⟩
   ·rw [h3,hI.2]
    constructor
    ·rintro ((h | ⟨c,hc,h⟩) | h)
     ·exact .inl h
     ·exact .inr ⟨c,by omega,h⟩
     ·exact .inr ⟨j,by omega,h⟩
    ·rintro (h | ⟨c,hc,h⟩)
     ·exact .inl (.inl h)
     ·rcases Nat.lt_succ_iff_lt_or_eq.1 hc with hc | rfl
      ·exact .inl (.inr ⟨c,hc,h⟩)
      ·exact .inr h) (fun m s=>by simp only [f1.l1];rw [if_pos (Int.natCast_nonneg r),if_neg (by omega)]) K (by omega) ps ⟨hs,fun p=>by simp⟩
  refine ⟨out,_,h1,h2,fun p=>?_⟩
  rw [h3]
  unfold begR
  rw [if_pos h]
  simp only [List.mem_map,List.mem_range]
  constructor
  ·rintro (h | ⟨c,hc,rfl⟩)
   ·exact .inl h
   ·exact .inr ⟨c,hc,rfl⟩
  ·rintro (h | ⟨c,hc,rfl⟩)
   ·exact .inl h
   ·exact .inr ⟨c,hc,rfl⟩
 ·obtain ⟨m,rfl⟩:∃ q,K=q+1:=⟨K-1,by omega⟩
  refine ⟨ps,0,?_,hs,fun p=>by unfold begR;rw [if_neg h];simp⟩
  simp only [f1.l1]
  rw [if_pos (Int.natCast_nonneg r),if_neg h]
  split <;> rfl
theorem begun_spec (K:Nat) (hK:1000000≤K) (g:Grammar) (hg:Bd g) (n:Int) (ps:List Place) (hs:RL g ps):∃ out,f1 K g n ps=some out∧RL g out∧∀ p,p ∈ out↔p ∈ ps∨p ∈ begs g n:=by
 have h256:=hg.1
 obtain ⟨out,h1,h2,h3⟩:=invLoop (n:=g.Rules.length) (f1.l0 K g n) (fun j s=>RL g s∧∀ p,p ∈ s↔p ∈ ps∨∃ r:Nat,r<j∧p ∈ begR g n r) (fun m s j hj hI=>by
  obtain ⟨out,q,h1,h2,h3⟩:=begun_l1 K hK g hg n j hj s hI.1
  refine ⟨out,?_,h2,fun p=>?_⟩
  ·simp only [f1.l0]
   rw [if_pos (by omega),h1,Option.bind_some,wr (a:=(j:Int)+1) (by omega) (by omega)]
  ·rw [h3,hI.2]
   constructor
   ·rintro ((h | ⟨c,hc,h⟩) | h)
    ·exact .inl h
    ·exact .inr ⟨c,by omega,h⟩
    ·exact .inr ⟨j,by omega,h⟩
   ·rintro (h | ⟨c,hc,h⟩)
    ·exact .inl (.inl h)
    ·rcases Nat.lt_succ_iff_lt_or_eq.1 hc with hc | rfl
     ·exact .inl (.inr ⟨c,hc,h⟩)
     ·exact .inr h) (fun m s=>by simp only [f1.l0];rw [if_neg (by omega)]) K (by omega) ps ⟨hs,fun p=>by simp⟩
 refine ⟨out,?_,h2,fun p=>?_⟩
 ·unfold f1;rw [h1];rfl
 ·rw [h3];unfold begs;simp only [List.mem_flatMap,List.mem_range]
def Out2 (K:Nat) (g:Grammar) (done:List Bool) (out:List Place) (ag:Bool) (i m:Nat):Prop :=
  (k0.l2 K g m (done,out,ag,(i:Int))=some (done,out,ag,(out.length:Int))∧∀ j:Nat,i≤j→j<out.length→∀ n,Nm g (rd out (j:Int)) n→rd done n=true) ∨
  ∃ (j:Nat) (n:Int),i≤j∧j<out.length∧Nm g (rd out (j:Int)) n∧rd done n=false∧k0.l2 K g m (done,out,ag,(i:Int))=(f1 K g n out).bind fun r=>some (done.set n.toNat true,r,true,(j:Int))
theorem cl2 (K:Nat) (hK:1000000≤K) (g:Grammar) (hm:mayP g) (done:List Bool) (hd:done.length=g.Names.length) (out:List Place) (hs:RL g out) (ag:Bool):∀ k i m,i+k=out.length→k<m→Out2 K g done out ag i m:=by
 have hl:=hs.len (may_bd hm)
 intro k
 induction k with
 | zero =>
  intro i m hi hmm
  obtain ⟨m,rfl⟩:∃ q,m=q+1:=⟨m-1,by omega⟩
  have:i=out.length:=by omega
  subst this
  refine .inl ⟨?_,fun j h1 h2=>by omega⟩
  simp only [k0.l2];rw [if_neg (by omega)]
 | succ k ih =>
  intro i m hi hmm
  obtain ⟨m,rfl⟩:∃ q,m=q+1:=⟨m-1,by omega⟩
  have hio:i<out.length:=by omega
  have hok:=hs.2 _ (mem_rd.2 ⟨i,hio,rfl⟩)
  obtain ⟨h1,h2,h3,h4,h5,h6⟩:=hok
  have next:(∀ n,Nm g (rd out (i:Int)) n→rd done n=true)→k0.l2 K g (m+1) (done,out,ag,(i:Int))=k0.l2 K g m (done,out,ag,(i:Int)+1)→Out2 K g done out ag i (m+1):=fun hq he=>by
   have:=ih (i+1) m (by omega) (by omega)
   unfold Out2 at this ⊢
   rw [show ((i+1:Nat):Int)=(i:Int)+1 by omega] at this
   rw [he]
   rcases this with ⟨g1,g2⟩ | ⟨j,n,g1,g2,g3,g4,g5⟩
   ·refine .inl ⟨g1,fun j hj1 hj2=>?_⟩
    rcases Nat.eq_or_lt_of_le hj1 with rfl | hj1
    ·exact hq
    ·exact g2 j (by omega) hj2
   ·exact .inr ⟨j,n,by omega,g2,g3,g4,g5⟩
  by_cases hpos:(rd out (i:Int)).Pos<((seqOf g (rd out (i:Int))).length:Int)
  ·by_cases hnm:0≤nmAt g (rd out (i:Int))
   ·have hN:Nm g (rd out (i:Int)) (nmAt g (rd out (i:Int))):=Nm_iff.2 ⟨hpos,rfl,hnm⟩
    have hb:=nm_bound hm (hs.2 _ (mem_rd.2 ⟨i,hio,rfl⟩)) hN
    cases hr:rd done (nmAt g (rd out (i:Int))) with
    | true =>
     refine next (fun n hn=>by rw [(Nm_iff.1 hn).2.1];exact hr) ?_
     simp only [k0.l2]
     rw [if_pos (by omega),if_pos (Int.natCast_nonneg i),if_pos h1,if_pos h2,if_pos h3,if_pos h4,if_pos hpos,if_pos h5,if_pos hpos,if_pos hnm,if_pos hnm,if_pos (show nmAt g (rd out (i:Int))<(done.length:Int) by omega),hr,if_neg (by decide),wr (a:=(i:Int)+1) (by omega) (by omega)]
    | false =>
     refine .inr ⟨i,_,Nat.le_refl _,hio,hN,hr,?_⟩
     simp only [k0.l2]
     rw [if_pos (by omega),if_pos (Int.natCast_nonneg i),if_pos h1,if_pos h2,if_pos h3,if_pos h4,if_pos hpos,if_pos h5,if_pos hpos,if_pos hnm,if_pos hnm,if_pos (show nmAt g (rd out (i:Int))<(done.length:Int) by omega),hr,if_pos (by decide)]
   ·refine next (fun n hn=>(hnm (Nm_iff.1 hn).2.2).elim) ?_
    simp only [k0.l2]
    rw [if_pos (by omega),if_pos (Int.natCast_nonneg i),if_pos h1,if_pos h2,if_pos h3,if_pos h4,if_pos hpos,if_pos h5,if_pos hpos,if_neg hnm,wr (a:=(i:Int)+1) (by omega) (by omega)]
  ·refine next (fun n hn=>(hpos hn.1).elim) ?_
   simp only [k0.l2]
   rw [if_pos (by omega),if_pos (Int.natCast_nonneg i),if_pos h1,if_pos h2,if_pos h3,if_pos h4,if_neg hpos,wr (a:=(i:Int)+1) (by omega) (by omega)]
def und (d:List Bool):Nat:=((List.range 64).filter fun (n:Nat)=>decide (n<d.length) && !(rd d (n:Int))).length
theorem und_set {d:List Bool} {n:Int} (h0:0≤n) (h1:n<(d.length:Int)) (h64:d.length≤64) (h:rd d n=false):und (d.set n.toNat true)+1≤und d:=by
 have hn:((n.toNat:Nat):Int)=n:=Int.toNat_of_nonneg h0
 unfold und
 have h2:n.toNat<d.length:=by omega
 refine filter_lt n.toNat (by simp;omega) (by rw [hn,h];simp [h2]) ?_ fun y hy=>?_
 ·rw [rd_set true h2,if_pos rfl];simp
 ·simp only [Bool.and_eq_true,decide_eq_true_eq,List.length_set,Bool.not_eq_true'] at *
  refine ⟨hy.1,?_⟩
  have:=hy.2
  rw [rd_set true h2] at this
  split at this
  ·cases this
  ·exact this
structure RI (g:Grammar) (ps:List Place) (d:List Bool) (out:List Place) (ag:Bool):Prop where
 r1:RL g out
 r2:∀ p ∈ out,Cl g ps p
 r3:∀ p ∈ ps,p ∈ out
 r4:∀ n:Int,0≤n→n<(d.length:Int)→rd d n=true→∀ p ∈ begs g n,p ∈ out
 r5:d.length=g.Names.length
 r6:ag=false→∀ q ∈ out,∀ n,Nm g q n→rd d n=true
theorem closedR (K:Nat) (hK:KW≤K) (g:Grammar) (hm:mayP g) (ps:List Place) (hp:∀ p ∈ ps,okP g p) (hl:ps.length*24≤140737488351232):∃ out,k0 K g ps=some out∧IsCl g ps out:=by
 have hg:=may_bd hm
 have hn64:=names64 hm
 unfold KW at hK
 obtain ⟨o0,h1,h2,h3⟩:=invLoop (n:=ps.length) (k0.l0 K ps) (fun i s=>RL g s∧∀ p,p ∈ s↔∃ j:Nat,j<i∧p=rd ps (j:Int)) (fun m s i hi hI=>by
  obtain ⟨out,h1,h2,h3⟩:=insert_spec K (by omega) s (rd ps (i:Int)) hI.1.1 (by have:=hI.1.len hg;omega)
  refine ⟨out,?_,⟨h2,fun p hpp=>?_⟩,fun p=>?_⟩
  ·simp only [k0.l0]
   rw [if_pos (by omega),if_pos (Int.natCast_nonneg i),h1,Option.bind_some,wr (a:=(i:Int)+1) (by omega) (by omega)]
  ·rcases (h3 p).1 hpp with hpp | rfl
   ·exact hI.1.2 p hpp
   ·exact hp _ (mem_rd.2 ⟨i,hi,rfl⟩)
  ·rw [h3,hI.2]
   constructor
   ·rintro (⟨j,hj,h⟩ | h)
    ·exact ⟨j,by omega,h⟩
    ·exact ⟨i,by omega,h⟩
   ·rintro ⟨j,hj,h⟩
    rcases Nat.lt_succ_iff_lt_or_eq.1 hj with hj | rfl
    ·exact .inl ⟨j,hj,h⟩
    ·exact .inr h) (fun m s=>by simp only [k0.l0];rw [if_neg (by omega)]) K (by omega) [] ⟨⟨by simp,by simp⟩,fun p=>by simp⟩
 have hmem:∀ p,p ∈ o0↔p ∈ ps:=fun p=>by rw [h3,mem_rd]
 have hloop:=rounds (L:=k0.l1 K g) (fun s=>RI g ps s.1 s.2.1 s.2.2) (fun s=>2*und s.1+(if s.2.2=true then 1 else 0)) (fun r=>RI g ps r.1 r.2.1 false) (fun s m hI=>by
  obtain ⟨d,out,ag⟩:=s
  cases ag with
  | false =>
   refine .inl ⟨(d,out,false),?_,hI⟩
   simp only [k0.l1];rw [if_neg (by decide)]
  | true =>
   refine .inr ?_
   have hlen:out.length≤262144:=hI.r1.len hg
   have h5:d.length=g.Names.length:=hI.r5
   rcases cl2 K (by omega) g hm d hI.r5 out hI.r1 false out.length 0 K (by omega) (by omega) with ⟨g1,g2⟩ | ⟨j,n,g1,g2,g3,g4,g5⟩
   ·refine ⟨(d,out,false),⟨hI.r1,hI.r2,hI.r3,hI.r4,hI.r5,fun _ q hq n hn=>?_⟩,by simp,?_⟩
    ·obtain ⟨i,hi,rfl⟩:=mem_rd.1 hq
     exact g2 i (Nat.zero_le _) hi n hn
    ·simp only [k0.l1]
     rw [if_pos trivial,show (0:Int)=((0:Nat):Int) from rfl,g1];rfl
   ·have hq:=mem_rd.2 ⟨j,g2,rfl⟩
    have hb:=nm_bound hm (hI.r1.2 _ hq) g3
    obtain ⟨o2,e1,e2,e3⟩:=begun_spec K (by omega) g hg n out hI.r1
    refine ⟨(d.set n.toNat true,o2,true),⟨e2,fun p hpp=>?_,fun p hpp=>(e3 p).2 (.inl (hI.r3 p hpp)),fun q h0 hq1 hq2 p hpp=>?_,by simp [hI.r5],fun h=>by cases h⟩,?_,?_⟩
    ·rcases (e3 p).1 hpp with hpp | hpp
     ·exact hI.r2 p hpp
     ·exact .step (hI.r2 _ hq) g3 hpp
    ·by_cases e:q=n
     ·subst e;exact (e3 p).2 (.inr hpp)
     ·rw [List.length_set] at hq1
      have hn2:n.toNat<d.length:=by omega
      have:=rd_set (j:=q.toNat) true hn2
      rw [Int.toNat_of_nonneg h0,if_neg (by omega)] at this
      exact (e3 p).2 (.inl (hI.r4 q h0 hq1 (this ▸ hq2) p hpp))
    ·have:=und_set hb.1 (by omega) (by omega) g4
     simp only [if_true];omega
    ·simp only [k0.l1]
     rw [if_pos trivial,show (0:Int)=((0:Nat):Int) from rfl,g5,e1];rfl)
 have hu:und (List.replicate (g.Names.length:Int).toNat false)≤64:=by unfold und;refine Nat.le_trans (List.length_filter_le _ _) ?_;simp
 obtain ⟨⟨d',out',ag'⟩,g1,g2⟩:=hloop K (List.replicate (g.Names.length:Int).toNat false,o0,true) ⟨h2,fun p hpp=>.base ((hmem p).1 hpp),fun p hpp=>(hmem p).2 hpp,fun n h0 h1 h2=>(by
   simp only [List.length_replicate] at h1
   have:=rd_rep (n:=(g.Names.length:Int).toNat) (i:=n.toNat) false (by omega)
   rw [Int.toNat_of_nonneg h0] at this
   simp only at h2
   rw [this] at h2;cases h2),(by simp),fun h=>(by cases h)⟩ (by simp only [if_true];omega)
 unfold k0
 rw [h1,Option.bind_some]
 show ∃ out,(if (1:Int)*(g.Names.length:Int)≤281474976710656 then (k0.l1 K g K (List.replicate (g.Names.length:Int).toNat false,o0,true)).bind fun (x,out_12,y)=>some out_12 else none)=some out∧_
 rw [if_pos (by omega),g1]
 exact ⟨out',rfl,IsCl.of g2.r1.1 g2.r3 g2.r2 fun q hq n hn p hpp=>g2.r4 n (nm_bound hm (g2.r1.2 q hq) hn).1 (by have h8:=(nm_bound hm (g2.r1.2 q hq) hn).2;have h9:d'.length=g.Names.length:=g2.r5;show n<(d'.length:Int);omega) (g2.r6 rfl q hq n hn) p hpp⟩
end Go.Proofs.Ytgmnohjaciemmaa

namespace Go.Proofs.Ytgmnohjaciemmaa
open S Go.Sort
set_option linter.unusedVariables false
set_option linter.unusedSimpArgs false
set_option maxRecDepth 100000
noncomputable def clos (g:Grammar) (ps:List Place):List Place:=@dite _ (∃ out,IsCl g ps out) (Classical.propDecidable _) (fun h=>h.choose) fun _=>[]
theorem clos_of {g:Grammar} {ps out:List Place} (h:IsCl g ps out):clos g ps=out:=by
 have he:∃ out,IsCl g ps out:=⟨out,h⟩
 unfold clos
 rw [dif_pos he]
 exact IsCl.uniq he.choose_spec h
def okL (g:Grammar) (ps:List Place):Prop:=∀ p ∈ ps,okP g p
theorem clos_is {g:Grammar} (hm:mayP g) {ps:List Place} (hp:okL g ps) (hl:ps.length*24≤140737488351232):IsCl g ps (clos g ps):=by
 obtain ⟨out,_,h⟩:=closedP KW (Nat.le_refl _) g hm ps hp hl
 rw [clos_of h];exact h
theorem IsCl.rl {g:Grammar} {ps out:List Place} (h:IsCl g ps out) (hp:okL g ps):RL g out:=⟨h.1,fun p hpp=>((h.2 p).1 hpp).ok hp⟩
theorem closedP_eq (K:Nat) (hK:KW≤K) {g:Grammar} (hm:mayP g) {ps:List Place} (hp:okL g ps) (hl:ps.length*24≤140737488351232):V2 K g ps=some (clos g ps):=by
 obtain ⟨out,h1,h2⟩:=closedP K hK g hm ps hp hl
 rw [h1,clos_of h2]
theorem closedR_eq (K:Nat) (hK:KW≤K) {g:Grammar} (hm:mayP g) {ps:List Place} (hp:okL g ps) (hl:ps.length*24≤140737488351232):k0 K g ps=some (clos g ps):=by
 obtain ⟨out,h1,h2⟩:=closedR K hK g hm ps hp hl
 rw [h1,clos_of h2]
theorem seqsIs_spec (K:Nat) (g:Grammar) (p:Place):seqs_Is K g p=some (decide (okP g p)):=by
 unfold seqs_Is
 by_cases h1:p.Rule<0
 ·rw [if_pos h1,decide_eq_false fun (h:okP g p)=>by unfold okP at h;omega]
 rw [if_neg h1]
 by_cases h2:(g.Rules.length:Int)≤p.Rule
 ·rw [if_pos h2,decide_eq_false fun (h:okP g p)=>by unfold okP at h;omega]
 rw [if_neg h2,if_pos (by omega)]
 by_cases h3:0≤p.Conj
 ·rw [if_pos h3]
  by_cases h4:p.Conj<((rd g.Rules p.Rule).Conj.length:Int)
  ·rw [if_pos h4]
   by_cases h5:0≤p.Pos
   ·rw [if_pos h5]
    congr 1
    exact decide_eq_decide.2 ⟨fun h=>⟨by omega,by omega,h3,h4,h5,h⟩,fun h=>h.2.2.2.2.2⟩
   ·rw [if_neg h5,decide_eq_false fun h=>h5 h.2.2.2.2.1]
  ·rw [if_neg h4,decide_eq_false fun h=>h4 h.2.2.2.1]
 ·rw [if_neg h3,decide_eq_false fun h=>h3 h.2.2.1]
theorem placeMay_spec (K:Nat) (g:Grammar) (p:Place):V6 K g p=some (decide (okP g p)):=by
 unfold V6
 by_cases h1:0≤p.Rule
 ·rw [if_pos h1]
  by_cases h2:p.Rule<(g.Rules.length:Int)
  ·rw [if_pos h2]
   by_cases h3:0≤p.Conj
   ·rw [if_pos h3]
    by_cases h4:p.Conj<((rd g.Rules p.Rule).Conj.length:Int)
    ·rw [if_pos h4]
     by_cases h5:0≤p.Pos
     ·rw [if_pos h5]
      congr 1
      exact decide_eq_decide.2 ⟨fun h=>⟨h1,h2,h3,h4,h5,h⟩,fun h=>h.2.2.2.2.2⟩
     ·rw [if_neg h5,decide_eq_false fun h=>h5 h.2.2.2.2.1]
    ·rw [if_neg h4,decide_eq_false fun h=>h4 h.2.2.2.1]
   ·rw [if_neg h3,decide_eq_false fun h=>h3 h.2.2.1]
  ·rw [if_neg h2,decide_eq_false fun h=>h2 h.2.1]
 ·rw [if_neg h1,decide_eq_false fun h=>h1 h.1]
instance (g:Grammar) (ps:List Place):Decidable (okL g ps):=by unfold okL;infer_instance
theorem okL_rd {g:Grammar} {ps:List Place}:okL g ps↔∀ i:Nat,i<ps.length→okP g (rd ps (i:Int)):=by
 constructor
 ·intro h i hi;exact h _ (mem_rd.2 ⟨i,hi,rfl⟩)
 ·intro h p hp
  obtain ⟨i,hi,rfl⟩:=mem_rd.1 hp
  exact h i hi
theorem contains_spec (K:Nat) (g:Grammar) (ps:List Place) (hl:ps.length*24≤140737488351232) (hK:KW≤K):slices_ContainsFunc_api_Place_api_Place__1 K ps g=some (decide (¬ okL g ps)):=by
 unfold KW at hK
 unfold slices_ContainsFunc_api_Place_api_Place__1 slices_IndexFunc_api_Place_api_Place__1
 have hs:=scan ps.length (slices_IndexFunc_api_Place_api_Place__1.l0 K ps g) (fun i=>if okP g (rd ps (i:Int)) then none else some (i:Int)) (fun m i hi=>by
  simp only [slices_IndexFunc_api_Place_api_Place__1.l0,W7]
  rw [if_pos (by omega),if_pos (Int.natCast_nonneg i),seqsIs_spec,Option.bind_some,Option.bind_some,wr (a:=(i:Int)+1) (by omega) (by omega)]
  by_cases h:okP g (rd ps (i:Int))
  ·rw [if_pos h,decide_eq_true h,if_neg (by decide)]
  ·rw [if_neg h,decide_eq_false h,if_pos (by decide)]) (fun m=>by simp only [slices_IndexFunc_api_Place_api_Place__1.l0];rw [if_neg (by omega)]) ps.length 0 K (by omega) (by omega)
 rw [show ((0:Nat):Int)=0 from rfl] at hs
 rw [hs]
 cases hf:firstOf (fun i=>if okP g (rd ps (i:Int)) then none else some (i:Int)) ps.length 0 with
 | none =>
  have:okL g ps:=okL_rd.2 fun i hi=>by
   have:=firstOf_none.1 hf i (Nat.zero_le _) (by omega)
   by_cases h:okP g (rd ps (i:Int))
   ·exact h
   ·rw [if_neg h] at this;cases this
  rw [brk_l,Option.bind_some,decide_eq_false (by decide),decide_eq_false (fun h=>h this)]
 | some r =>
  obtain ⟨j,_,hj,he,_⟩:=firstOf_some hf
  have hne:¬ okP g (rd ps (j:Int)):=fun h=>by rw [if_pos h] at he;cases he
  rw [if_neg hne] at he
  cases he
  have:¬ okL g ps:=fun h=>hne (okL_rd.1 h j (by omega))
  rw [brk_r,Option.bind_some,decide_eq_true (Int.natCast_nonneg j),decide_eq_true this]
theorem Close_both (K:Nat) (hK:KW≤K) (g:Grammar) (ps:List Place) (hl:ps.length*24≤140737488351232):∃ b:Bool,(b=true↔mayP g∧okL g ps)∧P3 K g ps=some (if b=true then (clos g ps,0) else ([],1300))∧L2 K g ps=some (if b=true then (clos g ps,0) else ([],1300)):=by
 have hK':=hK
 unfold KW at hK'
 obtain ⟨b,hb,hbm⟩:=gMay_spec K (by omega) g
 obtain ⟨b2,hb2,hbm2⟩:=rMay_spec K (by omega) g
 have e:b2=b:=by cases b <;> cases b2 <;> simp_all
 subst e
 unfold P3 L2
 rw [hb,Option.bind_some,hb2,Option.bind_some,contains_spec K g ps hl hK]
 cases b2 with
 | false=>exact ⟨false,⟨fun h=>(by cases h),fun h=>(by have:=hbm.2 h.1;cases this)⟩,rfl,rfl⟩
 | true =>
  have hm:=hbm.1 rfl
  rw [if_neg (by decide),if_neg (by decide),Option.bind_some]
  rcases ask_all2 (K:=K) (n:=ps.length) (L:=L2.l0 K g ps) (p:=fun i=>okP g (rd ps (i:Int))) (no:=(([]:List Place),(1300:Int))) (by omega) (fun m i hi=>by
   simp only [L2.l0]
   rw [if_pos (by omega),if_pos (Int.natCast_nonneg i),placeMay_spec,Option.bind_some,wr (a:=(i:Int)+1) (by omega) (by omega)]
   by_cases h:okP g (rd ps (i:Int))
   ·rw [decide_eq_true h,if_neg (by decide)];exact .inl ⟨h,rfl⟩
   ·rw [decide_eq_false h,if_pos (by decide)];exact .inr ⟨h,rfl⟩) (fun m=>by simp only [L2.l0];rw [if_neg (by omega)]) with ⟨h1,h2⟩ | ⟨h1,h2⟩
  ·have hok:okL g ps:=okL_rd.2 h2
   refine ⟨true,⟨fun _=>⟨hm,hok⟩,fun _=>rfl⟩,?_,?_⟩
   ·rw [decide_eq_false (fun h=>h hok),if_neg (by decide),closedP_eq K hK hm hok hl];rfl
   ·rw [h1,brk_l,closedR_eq K hK hm hok hl];rfl
  ·have hok:¬ okL g ps:=fun h=>h2 (okL_rd.1 h)
   refine ⟨false,⟨fun h=>(by cases h),fun h=>(hok h.2).elim⟩,?_,?_⟩
   ·rw [decide_eq_true hok,if_pos rfl];rfl
   ·rw [h1,brk_r];rfl
abbrev symAt (g:Grammar) (p:Place):Symbol:=rd (seqOf g p) p.Pos
abbrev inner (g:Grammar) (p:Place):Prop:=p.Pos<((seqOf g p).length:Int)
def symS (g:Grammar) (out:List Symbol) (p:Place):List Symbol:=if inner g p then (if symAt g p ∈ out then out else out++[symAt g p]) else out
def syms (g:Grammar) (ps:List Place):List Symbol:=ps.foldl (symS g) []
def On (p:Place):Place:=⟨p.Rule,p.Conj,p.Pos+1⟩
def onX (g:Grammar) (ps:List Place) (x:Symbol):List Place:=(ps.filter fun p=>decide (inner g p) && decide (symAt g p=x)).map On
theorem mem_syms {g:Grammar} {ps:List Place} {x:Symbol}:x ∈ syms g ps↔∃ p ∈ ps,inner g p∧symAt g p=x:=by
 have:∀ (ps:List Place) (out:List Symbol),x ∈ ps.foldl (symS g) out↔x ∈ out∨∃ p ∈ ps,inner g p∧symAt g p=x:=by
  intro ps
  induction ps with
  | nil=>intro out;simp
  | cons p ps ih =>
   intro out
   rw [List.foldl_cons,ih]
   have h1:x ∈ symS g out p↔x ∈ out∨(inner g p∧symAt g p=x):=by
    unfold symS
    by_cases h:inner g p
    ·rw [if_pos h]
     by_cases h2:symAt g p ∈ out
     ·rw [if_pos h2];exact ⟨.inl,fun h3=>h3.elim id fun h3=>h3.2 ▸ h2⟩
     ·rw [if_neg h2,List.mem_append,List.mem_singleton]
      exact ⟨fun h3=>h3.imp id fun h3=>⟨h,h3.symm⟩,fun h3=>h3.imp id fun h3=>h3.2.symm⟩
    ·rw [if_neg h];exact ⟨.inl,fun h3=>h3.elim id fun h3=>(h h3.1).elim⟩
   rw [h1]
   simp only [List.mem_cons,exists_eq_or_imp,or_assoc]
 unfold syms
 simpa using this ps []
theorem syms_nodup (g:Grammar) (ps:List Place):(syms g ps).Nodup:=by
 have:∀ (ps:List Place) (out:List Symbol),out.Nodup→(ps.foldl (symS g) out).Nodup:=by
  intro ps
  induction ps with
  | nil=>intro out h;exact h
  | cons p ps ih =>
   intro out h
   rw [List.foldl_cons]
   refine ih _ ?_
   unfold symS
   split
   ·split
    ·exact h
    ·rename_i h2
     refine List.nodup_append.2 ⟨h,by simp,fun a ha b hb e=>?_⟩
     simp at hb;subst hb;exact h2 (e ▸ ha)
   ·exact h
 exact this ps [] (by simp)
theorem syms_len (g:Grammar) (ps:List Place):(syms g ps).length≤ps.length:=by
 have:∀ (ps:List Place) (out:List Symbol),(ps.foldl (symS g) out).length≤out.length+ps.length:=by
  intro ps
  induction ps with
  | nil=>intro out;simp
  | cons p ps ih =>
   intro out
   rw [List.foldl_cons,List.length_cons]
   have h1:(symS g out p).length≤out.length+1:=by
    unfold symS
    split
    ·split
     ·omega
     ·simp
    ·omega
   have:=ih (symS g out p)
   omega
 unfold syms
 simpa using this ps []
theorem mem_onX {g:Grammar} {ps:List Place} {x:Symbol} {q:Place}:q ∈ onX g ps x↔∃ p ∈ ps,inner g p∧symAt g p=x∧q=On p:=by
 unfold onX
 simp only [List.mem_map,List.mem_filter,Bool.and_eq_true,decide_eq_true_eq]
 constructor
 ·rintro ⟨p,⟨h1,h2,h3⟩,rfl⟩;exact ⟨p,h1,h2,h3,rfl⟩
 ·rintro ⟨p,h1,h2,h3,rfl⟩;exact ⟨p,⟨h1,h2,h3⟩,rfl⟩
theorem onX_ok {g:Grammar} {ps:List Place} (h:okL g ps) (x:Symbol):okL g (onX g ps x):=fun q hq=>by
 obtain ⟨p,h1,h2,_,rfl⟩:=mem_onX.1 hq
 obtain ⟨g1,g2,g3,g4,g5,g6⟩:=h p h1
 exact ⟨g1,g2,g3,g4,by show 0≤p.Pos+1;omega,by show p.Pos+1≤((seqOf g p).length:Int);have:p.Pos<((seqOf g p).length:Int):=h2;omega⟩
theorem onX_len (g:Grammar) (ps:List Place) (x:Symbol):(onX g ps x).length≤ps.length:=by
 unfold onX;rw [List.length_map];exact List.length_filter_le _ _
theorem take_rd {T:Type} [Inhabited T] {xs:List T} {i:Nat} (h:i<xs.length):xs.take (i+1)=xs.take i++[rd xs (i:Int)]:=(take_snoc h).symm
theorem syms_snoc (g:Grammar) (ps:List Place) (p:Place):syms g (ps++[p])=symS g (syms g ps) p:=by unfold syms;rw [List.foldl_append];rfl
theorem onX_snoc (g:Grammar) (ps:List Place) (p:Place) (x:Symbol):onX g (ps++[p]) x=if inner g p∧symAt g p=x then onX g ps x++[On p] else onX g ps x:=by
 unfold onX
 rw [List.filter_append,List.map_append]
 by_cases h:inner g p∧symAt g p=x
 ·rw [if_pos h,List.filter_cons,if_pos (by simp [h.1,h.2])];rfl
 ·rw [if_neg h,List.filter_cons,if_neg (by simpa using fun a b=>h ⟨a,b⟩)];simp
theorem sym_eta (x:Symbol):(⟨x.Name,x.Lo,x.Hi⟩:Symbol)=x:=rfl
theorem mget_mput {κ ν:Type} [DecidableEq κ] {es:List (κ×ν)} {k q:κ} {v:ν}:mget (mput es k v) q=if q=k then some v else mget es q:=by
 induction es with
 | nil =>
  unfold mput mget
  by_cases h:q=k
  ·subst h;simp
  ·rw [if_neg h];simp [Ne.symm h]
 | cons p es ih =>
  rw [mput]
  by_cases hp:p.1=k
  ·rw [if_pos hp]
   unfold mget
   by_cases h:q=k
   ·subst h;simp
   ·rw [if_neg h];simp [Ne.symm h,show p.1≠q from fun e=>h (e ▸ hp)]
  ·rw [if_neg hp]
   by_cases hq:p.1=q
   ·subst hq;rw [if_neg hp];unfold mget;simp
   ·have:=ih
    unfold mget at this ⊢
    rw [List.find?_cons,List.find?_cons,decide_eq_false hq]
    exact this
theorem invLoop2 {A B:Type} {n:Nat} (L:Nat→A×B×Int→Option (A×B×Int)) (I:Nat→A→B→Prop) (step:∀ m a b i,i<n→I i a b→∃ a' b',L (m+1) (a,b,(i:Int))=L m (a',b',(i:Int)+1)∧I (i+1) a' b')
  (stop:∀ m a b,L (m+1) (a,b,(n:Int))=some (a,b,(n:Int))) (m:Nat) (hm:n<m) (a:A) (b:B) (h0:I 0 a b):∃ a' b',L m (a,b,0)=some (a',b',(n:Int))∧I n a' b':=by
 have key:∀ k i a b m,i+k=n→k<m→I i a b→∃ a' b',L m (a,b,(i:Int))=some (a',b',(n:Int))∧I n a' b':=by
  intro k
  induction k with
  | zero =>
   intro i a b m hi hm h
   obtain ⟨m,rfl⟩:∃ q,m=q+1:=⟨m-1,by omega⟩
   have:i=n:=by omega
   subst this
   exact ⟨a,b,stop m a b,h⟩
  | succ k ih =>
   intro i a b m hi hm h
   obtain ⟨m,rfl⟩:∃ q,m=q+1:=⟨m-1,by omega⟩
   obtain ⟨a',b',h1,h2⟩:=step m a b i (by omega) h
   rw [h1]
   have:=ih (i+1) a' b' m (by omega) (by omega) h2
   rw [show ((i+1:Nat):Int)=(i:Int)+1 by omega] at this
   exact this
 have:=key n 0 a b m (by omega) hm h0
 rw [show ((0:Nat):Int)=0 from rfl] at this
 exact this
theorem moves_l0 (K:Nat) (hK:1000000≤K) (b:Items_builder) (i:Int) (ps:List Place) (hps:rd b.a.States i=ps) (hg:Bd b.g) (hs:RL b.g ps):∃ c,J0.l0 K b i K ([],[],0)=some (syms b.g ps,c,(ps.length:Int))∧∀ x,mgetD [] c x=onX b.g ps x:=by
 have hl:=hs.len hg
 subst hps
 obtain ⟨xs,c,h1,rfl,h3,h4⟩:=invLoop2 (n:=(rd b.a.States i).length) (J0.l0 K b i) (fun j xs c=>xs=syms b.g ((rd b.a.States i).take j)∧(∀ x,mgetD [] c x=onX b.g ((rd b.a.States i).take j) x)∧∀ x,mget c x=none↔x ∉ syms b.g ((rd b.a.States i).take j)) (fun m xs c j hj hI=>by
  obtain ⟨rfl,h2,h3⟩:=hI
  have hok:=hs.2 _ (mem_rd.2 ⟨j,hj,rfl⟩)
  have hbd:=ok_small hg hok
  simp only [J0.l0]
  rw [if_pos (by omega),if_pos (Int.natCast_nonneg j),show (⟨(rd (rd b.a.States i) (j:Int)).Rule,(rd (rd b.a.States i) (j:Int)).Conj,(rd (rd b.a.States i) (j:Int)).Pos⟩:Place)=rd (rd b.a.States i) (j:Int) from rfl,itSym_spec K b.g _ hok,Option.bind_some,wr (a:=(j:Int)+1) (by omega) (by omega),take_rd hj]
  have h6:=hok.2.2.2.2.2
  by_cases hin:inner b.g (rd (rd b.a.States i) (j:Int))
  ·have hlen:=syms_len b.g ((rd b.a.States i).take j)
   have hlen2:=onX_len b.g ((rd b.a.States i).take j) (symAt b.g (rd (rd b.a.States i) (j:Int)))
   rw [List.length_take] at hlen hlen2
   rw [if_neg (show ¬ (rd (rd b.a.States i) (j:Int)).Pos=((seqOf b.g (rd (rd b.a.States i) (j:Int))).length:Int) from fun e=>by unfold inner at hin;omega)]
   dsimp only
   rw [if_neg (by decide)]
   simp only [sym_eta]
   have hx:(if mget c (symAt b.g (rd (rd b.a.States i) (j:Int)))=none then (if ((syms b.g ((rd b.a.States i).take j)).length+([symAt b.g (rd (rd b.a.States i) (j:Int))]:List Symbol).length)*24≤140737488355328 then some (syms b.g ((rd b.a.States i).take j)++[symAt b.g (rd (rd b.a.States i) (j:Int))]) else none) else some (syms b.g ((rd b.a.States i).take j)))=some (symS b.g (syms b.g ((rd b.a.States i).take j)) (rd (rd b.a.States i) (j:Int))):=by
    unfold symS
    rw [if_pos hin]
    by_cases hm:symAt b.g (rd (rd b.a.States i) (j:Int)) ∈ syms b.g ((rd b.a.States i).take j)
    ·rw [if_neg (fun h=>(h3 _).1 h hm),if_pos hm]
    ·rw [if_pos ((h3 _).2 hm),if_neg hm,if_pos (by simp only [List.length_cons,List.length_nil];omega)]
   rw [hx,Option.bind_some,h2,if_pos (by have h9:=onX_len b.g ((rd b.a.States i).take j) (rd (seqOf b.g (rd (rd b.a.States i) (j:Int))) (rd (rd b.a.States i) (j:Int)).Pos);rw [List.length_take] at h9;simp only [List.length_cons,List.length_nil];omega)]
   refine ⟨_,_,rfl,(syms_snoc _ _ _).symm,fun x=>?_,fun x=>?_⟩
   ·rw [onX_snoc,mgetD,mget_mput]
    by_cases e:symAt b.g (rd (rd b.a.States i) (j:Int))=x
    ·rw [if_pos e.symm,if_pos ⟨hin,e⟩,wr (a:=(rd (rd b.a.States i) (j:Int)).Pos+1) (by omega) (by omega),← e];rfl
    ·rw [if_neg (fun h=>e h.symm),if_neg (fun h=>e h.2)];exact h2 x
   ·rw [mget_mput,mem_syms]
    have h3':=h3 x
    rw [mem_syms] at h3'
    simp only [List.mem_append,List.mem_singleton]
    by_cases e:x=symAt b.g (rd (rd b.a.States i) (j:Int))
    ·rw [if_pos e]
     exact ⟨fun h=>(by cases h),fun h=>(h ⟨_,.inr rfl,hin,e.symm⟩).elim⟩
    ·rw [if_neg e,h3']
     constructor
     ·rintro h ⟨p,hp | rfl,h5,h6⟩
      ·exact h ⟨p,hp,h5,h6⟩
      ·exact e h6.symm
     ·rintro h ⟨p,hp,h5,h6⟩
      exact h ⟨p,.inl hp,h5,h6⟩
  ·rw [if_pos (show (rd (rd b.a.States i) (j:Int)).Pos=((seqOf b.g (rd (rd b.a.States i) (j:Int))).length:Int) by unfold inner at hin;omega)]
   dsimp only
   rw [if_pos (by decide)]
   refine ⟨_,_,rfl,?_,fun x=>?_,fun x=>?_⟩
   ·rw [syms_snoc];unfold symS;rw [if_neg hin]
   ·rw [onX_snoc,if_neg (fun h=>hin h.1)];exact h2 x
   ·rw [syms_snoc];unfold symS;rw [if_neg hin];exact h3 x) (fun m xs c=>by simp only [J0.l0];rw [if_neg (by omega)]) K (by omega) [] [] ⟨by simp [syms],fun x=>by simp [onX,mgetD,mget],fun x=>by simp [syms,mget]⟩
 rw [List.take_length] at h1 h3
 exact ⟨c,h1,h3⟩
end Go.Proofs.Ytgmnohjaciemmaa

namespace Go.Proofs.Ytgmnohjaciemmaa
open S Go.Sort
set_option linter.unusedVariables false
set_option linter.unusedSimpArgs false
set_option maxRecDepth 100000
def Byt (xs:List Int):Prop:=∀ v ∈ xs,0≤v∧v<256
theorem byt_back {xs:List Int} (h:Byt xs):bytesL (strL xs)=xs:=by
 unfold bytesL strL
 simp only [List.map_map]
 conv=>rhs;rw [← List.map_id xs]
 apply List.map_congr_left
 intro v hv
 obtain ⟨h0,h1⟩:=h v hv
 simp only [Function.comp,id]
 have:(UInt8.ofNat v.toNat).toNat=v.toNat % 256:=by simp
 rw [this]
 omega
def by4 (p:Place):List Int:=[0,p.Rule,p.Conj,p.Pos]
def bts (ps:List Place):ByteArray:=strL (ps.flatMap by4)
theorem by4_byt {g:Grammar} (hg:Bd g) {ps:List Place} (h:okL g ps):Byt (ps.flatMap by4):=fun v hv=>by
 obtain ⟨p,hp,hv⟩:=List.mem_flatMap.1 hv
 have:=ok_small hg (h p hp)
 simp only [by4,List.mem_cons,List.not_mem_nil,or_false] at hv
 omega
theorem by4_inj:∀ {a b:List Place},a.flatMap by4=b.flatMap by4→a=b
 | [],[],_=>rfl
 | [],q::b,h=>by simp [by4] at h
 | p::a,[],h=>by simp [by4] at h
 | p::a,q::b,h=>by
  simp only [List.flatMap_cons,by4,List.cons_append,List.nil_append,List.cons.injEq,true_and] at h
  obtain ⟨h1,h2,h3,h4⟩:=h
  have:p=q:=by cases p;cases q;simp_all
  rw [this,by4_inj h4]
theorem bts_inj {g:Grammar} (hg:Bd g) {a b:List Place} (ha:okL g a) (hb:okL g b) (h:bts a=bts b):a=b:=by
 have:=congrArg bytesL h
 unfold bts at this
 rw [byt_back (by4_byt hg ha),byt_back (by4_byt hg hb)] at this
 exact by4_inj this
theorem range_rd {T U:Type} [Inhabited T] (f:T→List U) (xs:List T):(List.range xs.length).flatMap (fun (i:Nat)=>f (rd xs (i:Int)))=xs.flatMap f:=by
 have:(List.range xs.length).map (fun (i:Nat)=>rd xs (i:Int))=xs:=by
  apply List.ext_getElem
  ·simp
  ·intro i h1 h2
   simp only [List.getElem_map,List.getElem_range]
   rw [rd_nat,List.getD_eq_getElem?_getD,List.getElem?_eq_getElem h2];rfl
 conv=>rhs;rw [← this]
 rw [List.flatMap_map]
theorem bytes_spec (K:Nat) (hK:1000000≤K) {g:Grammar} (hg:Bd g) {ps:List Place} (h:RL g ps):P5 K ps=some (bts ps):=by
 have hl:=h.len hg
 have:=appLoop (n:=ps.length) (c:=4) (B:=2000000) (L:=P5.l0 K ps) (fun (i:Nat)=>by4 (rd ps (i:Int))) (fun _=>by simp [by4]) (fun m s i hi hs=>by
  have hb:=ok_small hg (h.2 _ (mem_rd.2 ⟨i,hi,rfl⟩))
  have e:[IntKind.wrap .u8 (ishr .i64 ((rd ps (i:Int)).Rule) 8),IntKind.wrap .u8 ((rd ps (i:Int)).Rule),IntKind.wrap .u8 ((rd ps (i:Int)).Conj),IntKind.wrap .u8 ((rd ps (i:Int)).Pos)]=by4 (rd ps (i:Int)):=by
   unfold by4
   rw [wb (a:=(rd ps (i:Int)).Rule) (by omega) (by omega),wb (a:=(rd ps (i:Int)).Conj) (by omega) (by omega),wb (a:=(rd ps (i:Int)).Pos) (by omega) (by omega)]
   have:ishr .i64 ((rd ps (i:Int)).Rule) 8=0:=by
    unfold ishr
    rw [show ((2:Int) ^ (min (8:Int).toNat IntKind.i64.bits))=256 from by decide,Int.fdiv_eq_ediv_of_nonneg _ (by decide)]
    rw [show (rd ps (i:Int)).Rule / 256=0 by omega]
   rw [this,wb (a:=0) (by omega) (by omega)]
  simp only [P5.l0]
  rw [if_pos (by omega),if_pos (Int.natCast_nonneg i),e,if_pos (by simp only [by4,List.length_cons,List.length_nil];omega),wr (a:=(i:Int)+1) (by omega) (by omega)]) (fun m s=>by simp only [P5.l0];rw [if_neg (by omega)]) K (by omega) [] (by simp only [List.length_nil];omega)
 unfold P5 bts
 rw [this,Option.bind_some,List.nil_append,range_rd]
def ixOf (S:List (List Place)) (r:List Place):Nat:=S.findIdx fun q=>decide (q=r)
def addS (S:List (List Place)) (r:List Place):List (List Place):=if r ∈ S then S else S++[r]
theorem ixOf_mem {S:List (List Place)} {r:List Place} (h:r ∈ S):ixOf S r<S.length:=List.findIdx_lt_length_of_exists ⟨r,h,by simp⟩
theorem ixOf_no {S:List (List Place)} {r:List Place} (h:r ∉ S):ixOf S r=S.length:=List.findIdx_eq_length.2 fun q hq=>by
 have:q≠r:=fun e=>h (e ▸ hq)
 simpa using this
theorem rd_ixOf {S:List (List Place)} {r:List Place} (h:r ∈ S):rd S (ixOf S r:Int)=r:=by
 have hl:=ixOf_mem h
 have:=List.findIdx_getElem (p:=fun q=>decide (q=r)) (w:=hl)
 rw [rd_nat,List.getD_eq_getElem?_getD,List.getElem?_eq_getElem hl]
 exact of_decide_eq_true this
theorem ixOf_is {S:List (List Place)} {r:List Place} {k:Nat} (hk:k≤S.length) (h1:∀ j,j<k→rd S (j:Int)≠r) (h2:k<S.length→rd S (k:Int)=r):ixOf S r=k:=by
 by_cases hl:k<S.length
 ·have e:∀ j (hj:j<S.length),S[j]=rd S (j:Int):=fun j hj=>by rw [rd_nat,List.getD_eq_getElem?_getD,List.getElem?_eq_getElem hj];rfl
  refine (List.findIdx_eq hl).2 ⟨by rw [e];simpa using h2 hl,fun j hj=>by rw [e];simpa using h1 j hj⟩
 ·have:k=S.length:=by omega
  subst this
  refine ixOf_no fun hm=>?_
  obtain ⟨i,hi,e⟩:=mem_rd.1 hm
  exact h1 i hi e.symm
theorem ixOf_app {S:List (List Place)} {q r:List Place} (h:q ∈ S):ixOf (S++[r]) q=ixOf S q:=by
 have hl:=ixOf_mem h
 unfold ixOf at hl ⊢
 rw [List.findIdx_append,if_pos hl]
theorem ixOf_new {S:List (List Place)} {r:List Place} (h:r ∉ S):ixOf (S++[r]) r=S.length:=by
 have:=ixOf_no h
 unfold ixOf at *
 rw [List.findIdx_append,if_neg (by omega)]
 simp
def By (g:Grammar) (S:List (List Place)) (m:List (ByteArray×Int)):Prop:=∀ q,RL g q→mget m (bts q)=if q ∈ S then some (ixOf S q:Int) else none
theorem state_spec (K:Nat) (hK:1000000≤K) {g:Grammar} (hg:Bd g) {S:List (List Place)} {M:List Move} {m:List (ByteArray×Int)} {r:List Place} (hr:RL g r) (hS:∀ q ∈ S,RL g q) (hb:By g S m) (hl:S.length≤1000000) :
  ∃ m',G5 K ⟨g,⟨S,M⟩,m⟩ r=some ((ixOf S r:Int),⟨g,⟨addS S r,M⟩,m'⟩)∧By g (addS S r) m':=by
 unfold G5 addS
 rw [bytes_spec K hK hg hr,Option.bind_some]
 have h:=hb r hr
 by_cases hm:r ∈ S
 ·rw [if_pos hm] at h
  rw [if_pos hm]
  refine ⟨m,?_,hb⟩
  rw [if_neg (by simp [mhas,h])]
  simp [mgetD,h]
 ·rw [if_neg hm] at h
  rw [if_neg hm]
  refine ⟨mput m (bts r) (S.length:Int),?_,fun q hq=>?_⟩
  ·rw [if_pos (by simp [mhas,h]),if_pos (by show (S.length+1)*24≤_;omega),ixOf_no hm]
  ·rw [mget_mput]
   by_cases e:q=r
   ·subst e
    rw [if_pos rfl,if_pos (by simp),ixOf_new hm]
   ·rw [if_neg (fun h=>e (bts_inj hg hq.2 hr.2 h)),hb q hq]
    by_cases hq2:q ∈ S
    ·rw [if_pos hq2,if_pos (by simp [hq2]),ixOf_app hq2]
    ·rw [if_neg hq2,if_neg (by simp [hq2,e])]
noncomputable def stp (g:Grammar) (i:Nat) (ps:List Place) (a:List (List Place)×List Move) (x:Symbol):List (List Place)×List Move:=(addS a.1 (clos g (onX g ps x)),a.2++[(⟨(i:Int),x,(ixOf a.1 (clos g (onX g ps x)):Int)⟩:Move)])
noncomputable def stA (g:Grammar) (i:Nat) (ps:List Place) (a:List (List Place)×List Move):List (List Place)×List Move:=(syms g ps).foldl (stp g i ps) a
noncomputable def bldL (g:Grammar):Nat→List (List Place)→List Move→Nat→Option Automaton
 | 0,_,_,_=>none
 | f+1,S,M,i=>if i<S.length then (if 256<(stA g i (rd S (i:Int)) (S,M)).1.length then none else bldL g f (stA g i (rd S (i:Int)) (S,M)).1 (stA g i (rd S (i:Int)) (S,M)).2 (i+1)) else some ⟨S,M⟩
theorem addS_len (S:List (List Place)) (r:List Place):S.length≤(addS S r).length∧(addS S r).length≤S.length+1:=by
 unfold addS;split <;> simp
theorem addS_pre {S:List (List Place)} (r:List Place) {i:Nat} (hi:i<S.length):rd (addS S r) (i:Int)=rd S (i:Int):=by
 unfold addS
 split
 ·rfl
 ·rw [rd_nat,rd_nat,List.getD_eq_getElem?_getD,List.getD_eq_getElem?_getD,List.getElem?_append_left hi]
theorem fold_stp_len (g:Grammar) (i:Nat) (ps:List Place):∀ (xs:List Symbol) (a:List (List Place)×List Move),a.1.length≤(xs.foldl (stp g i ps) a).1.length∧(xs.foldl (stp g i ps) a).1.length≤a.1.length+xs.length∧(xs.foldl (stp g i ps) a).2.length=a.2.length+xs.length∧∀ j,j<a.1.length→rd (xs.foldl (stp g i ps) a).1 (j:Int)=rd a.1 (j:Int)
 | [],a=>⟨Nat.le_refl _,by simp,by simp,fun _ _=>rfl⟩
 | x::xs,a=>by
  have h1:=addS_len a.1 (clos g (onX g ps x))
  obtain ⟨h2,h3,h4,h5⟩:=fold_stp_len g i ps xs (stp g i ps a x)
  rw [List.foldl_cons,List.length_cons]
  simp only [stp,List.length_append,List.length_cons,List.length_nil] at h2 h3 h4 h5 ⊢
  refine ⟨by omega,by omega,by omega,fun j hj=>?_⟩
  rw [h5 j (by omega),addS_pre _ hj]
theorem addS_rl {g:Grammar} {S:List (List Place)} {r:List Place} (hS:∀ q ∈ S,RL g q) (hr:RL g r):∀ q ∈ addS S r,RL g q:=fun q hq=>by
 unfold addS at hq
 split at hq
 ·exact hS q hq
 ·rcases List.mem_append.1 hq with hq | hq
  ·exact hS q hq
  ·simp at hq;subst hq;exact hr
theorem clos_onX {g:Grammar} (hm:mayP g) {ps:List Place} (hp:RL g ps) (x:Symbol):RL g (clos g (onX g ps x)) :=
 (clos_is hm (onX_ok hp.2 x) (by have:=onX_len g ps x;have:=hp.len (may_bd hm);omega)).rl (onX_ok hp.2 x)
theorem fold_stp_rl {g:Grammar} (hm:mayP g) (i:Nat) {ps:List Place} (hp:RL g ps):∀ (xs:List Symbol) (a:List (List Place)×List Move),(∀ q ∈ a.1,RL g q)→∀ q ∈ (xs.foldl (stp g i ps) a).1,RL g q
 | [],a,h=>h
 | x::xs,a,h=>fold_stp_rl hm i hp xs _ (addS_rl h (clos_onX hm hp x))
theorem fold_snoc {α β:Type} (f:β→α→β) (b:β) (xs:List α) (x:α):(xs++[x]).foldl f b=f (xs.foldl f b) x:=by rw [List.foldl_append];rfl
theorem invLoopG {σ τ:Type} {n:Nat} (mk:τ→Int→σ) (L:Nat→σ→Option σ) (I:Nat→τ→Prop) (step:∀ m s i,i<n→I i s→∃ s',L (m+1) (mk s (i:Int))=L m (mk s' ((i:Int)+1))∧I (i+1) s')
  (stop:∀ m s,L (m+1) (mk s (n:Int))=some (mk s (n:Int))) (m:Nat) (hm:n<m) (s:τ) (h0:I 0 s):∃ s',L m (mk s 0)=some (mk s' (n:Int))∧I n s':=by
 have key:∀ k i s m,i+k=n→k<m→I i s→∃ s',L m (mk s (i:Int))=some (mk s' (n:Int))∧I n s':=by
  intro k
  induction k with
  | zero =>
   intro i s m hi hm h
   obtain ⟨m,rfl⟩:∃ q,m=q+1:=⟨m-1,by omega⟩
   have:i=n:=by omega
   subst this
   exact ⟨s,stop m s,h⟩
  | succ k ih =>
   intro i s m hi hm h
   obtain ⟨m,rfl⟩:∃ q,m=q+1:=⟨m-1,by omega⟩
   obtain ⟨s',h1,h2⟩:=step m s i (by omega) h
   rw [h1]
   have:=ih (i+1) s' m (by omega) (by omega) h2
   rw [show ((i+1:Nat):Int)=(i:Int)+1 by omega] at this
   exact this
 have:=key n 0 s m (by omega) hm h0
 rw [show ((0:Nat):Int)=0 from rfl] at this
 exact this
theorem moves_spec (K:Nat) (hK:KW≤K) {g:Grammar} (hm:mayP g) {S:List (List Place)} {M:List Move} {m:List (ByteArray×Int)} {i:Nat} (hi:i<S.length) (hS:∀ q ∈ S,RL g q) (hb:By g S m) (hl:S.length≤256) (hM:M.length≤100000000) :
  ∃ m',J0 K ⟨g,⟨S,M⟩,m⟩ i=some ⟨g,⟨(stA g i (rd S (i:Int)) (S,M)).1,(stA g i (rd S (i:Int)) (S,M)).2⟩,m'⟩∧By g (stA g i (rd S (i:Int)) (S,M)).1 m':=by
 have hg:=may_bd hm
 have hK':=hK
 unfold KW at hK'
 have hp:RL g (rd S (i:Int)):=hS _ (mem_rd.2 ⟨i,hi,rfl⟩)
 have hpl:=hp.len hg
 have hsl:=syms_len g (rd S (i:Int))
 unfold J0
 rw [if_pos (Int.natCast_nonneg i),if_pos (show (i:Int)<(S.length:Int) by omega)]
 obtain ⟨c,h1,h2⟩:=moves_l0 K (by omega) ⟨g,⟨S,M⟩,m⟩ (i:Int) (rd S (i:Int)) rfl hg hp
 rw [h1,Option.bind_some]
 obtain ⟨⟨S',M',m'⟩,h3,h4,h5⟩:=invLoopG (n:=(syms g (rd S (i:Int))).length) (σ:=List (List Place)×List Move×List (ByteArray×Int)×Int) (τ:=List (List Place)×List Move×List (ByteArray×Int)) (fun s t=>(s.1,s.2.1,s.2.2,t)) (J0.l1 K ⟨g,⟨S,M⟩,m⟩ (i:Int) (syms g (rd S (i:Int))) c)
  (fun j s=>(s.1,s.2.1)=((syms g (rd S (i:Int))).take j).foldl (stp g i (rd S (i:Int))) (S,M)∧By g s.1 s.2.2) (fun q s j hj hI=>by
   obtain ⟨S1,M1,m1⟩:=s
   obtain ⟨e1,hb1⟩:=hI
   dsimp only at e1 hb1
   have hlen:=fold_stp_len g i (rd S (i:Int)) ((syms g (rd S (i:Int))).take j) (S,M)
   have hrl:=fold_stp_rl hm i hp ((syms g (rd S (i:Int))).take j) (S,M) hS
   rw [← e1] at hlen hrl
   obtain ⟨l1,l2,l3,l4⟩:=hlen
   rw [List.length_take] at l2 l3
   dsimp only at l1 l2 l3 l4 hrl
   have hx:clos g (mgetD [] c (rd (syms g (rd S (i:Int))) (j:Int)))=clos g (onX g (rd S (i:Int)) (rd (syms g (rd S (i:Int))) (j:Int))):=by rw [h2]
   have hxl:=onX_len g (rd S (i:Int)) (rd (syms g (rd S (i:Int))) (j:Int))
   obtain ⟨m2,g1,g2⟩:=state_spec K (by omega) hg (M:=M1) (clos_onX hm hp (rd (syms g (rd S (i:Int))) (j:Int))) hrl hb1 (by omega)
   refine ⟨(addS S1 (clos g (onX g (rd S (i:Int)) (rd (syms g (rd S (i:Int))) (j:Int)))),M1++[(⟨(i:Int),rd (syms g (rd S (i:Int))) (j:Int),(ixOf S1 (clos g (onX g (rd S (i:Int)) (rd (syms g (rd S (i:Int))) (j:Int)))):Int)⟩:Move)],m2),?_,?_,g2⟩
   ·simp only [J0.l1,sym_eta]
    rw [if_pos (by omega),if_pos (Int.natCast_nonneg j),h2,closedP_eq K hK hm (onX_ok hp.2 _) (by omega),Option.bind_some,g1,Option.bind_some]
    dsimp only
    rw [if_pos (by simp only [List.length_cons,List.length_nil];omega),wr (a:=(j:Int)+1) (by omega) (by omega)]
   ·rw [take_rd hj,fold_snoc,← e1];rfl) (fun q s=>by simp only [J0.l1];rw [if_neg (by omega)]) K (by omega) (S,M,m) ⟨rfl,hb⟩
 rw [List.take_length] at h4
 dsimp only at h3 h4 h5
 refine ⟨m',?_,?_⟩
 ·show (J0.l1 K ⟨g,⟨S,M⟩,m⟩ (i:Int) (syms g (rd S (i:Int))) c K (S,M,m,0)).bind _=_
  rw [h3,Option.bind_some]
  unfold stA
  rw [← h4]
 ·unfold stA;rw [← h4];exact h5
def resB:Option Automaton→Automaton×Int
 | some a=>(a,0)
 | none=>(⟨[],[]⟩,1301)
theorem build_l0 (K:Nat) (hK:KW≤K) {g:Grammar} (hm:mayP g):∀ (f:Nat) (S:List (List Place)) (M:List Move) (m:List (ByteArray×Int)) (i q:Nat),f+i=258→f<q→(∀ r ∈ S,RL g r)→By g S m→S.length≤256→i≤S.length→M.length≤i*262144 →
  brk (W3.l0 K g q (S,M,m,(i:Int))) (fun x=>some ((⟨x.1,x.2.1⟩:Automaton),(0:Int)))=some (resB (bldL g f S M i))
 | 0,S,M,m,i,q,hf,hq,hS,hb,hl,hi,hM=>by omega
 | f+1,S,M,m,i,q,hf,hq,hS,hb,hl,hi,hM=>by
  have hg:=may_bd hm
  obtain ⟨q,rfl⟩:∃ p,q=p+1:=⟨q-1,by omega⟩
  simp only [W3.l0,bldL]
  by_cases hiS:i<S.length
  ·have hp:RL g (rd S (i:Int)):=hS _ (mem_rd.2 ⟨i,hiS,rfl⟩)
   obtain ⟨m',h1,h2⟩:=moves_spec K hK hm (M:=M) hiS hS hb hl (by omega)
   have hlen:=fold_stp_len g i (rd S (i:Int)) (syms g (rd S (i:Int))) (S,M)
   have hrl:=fold_stp_rl hm i hp (syms g (rd S (i:Int))) (S,M) hS
   rw [if_pos (by omega),if_pos hiS,h1,Option.bind_some]
   dsimp only
   by_cases h256:256<(stA g i (rd S (i:Int)) (S,M)).1.length
   ·rw [if_pos (by omega),if_pos h256,brk_r];rfl
   ·rw [if_neg (by omega),if_neg h256,wr (a:=(i:Int)+1) (by omega) (by omega)]
    have:=build_l0 K hK hm f (stA g i (rd S (i:Int)) (S,M)).1 (stA g i (rd S (i:Int)) (S,M)).2 m' (i+1) q (by omega) (by omega) hrl h2 (by omega) (by unfold stA;have:=hlen.1;dsimp only at this;omega) (by
     have a:=hlen.2.2.1
     have b:=syms_len g (rd S (i:Int))
     have c:=hp.len hg
     unfold stA;dsimp only at a;omega)
    rw [show ((i+1:Nat):Int)=(i:Int)+1 by omega] at this
    exact this
  ·rw [if_neg (by omega),if_neg hiS,brk_l];rfl
end Go.Proofs.Ytgmnohjaciemmaa

namespace Go.Proofs.Ytgmnohjaciemmaa
open S Go.Sort
set_option linter.unusedVariables false
set_option linter.unusedSimpArgs false
set_option maxRecDepth 100000
theorem stand_l1 (K:Nat) (g:Grammar) (ps:List Place) (xs:List Symbol) (i:Nat) (hi:i<ps.length) (hok:okP g (rd ps (i:Int))) (hin:inner g (rd ps (i:Int))) (hl:xs.length≤300000) (hK:1000000≤K) :
  ∃ b:Bool,W0.l1 K g ps xs i K (false,0)=some (b,(xs.length:Int))∧(b=true↔symAt g (rd ps (i:Int)) ∈ xs):=by
 obtain ⟨b,h1,h2⟩:=invLoop (n:=xs.length) (W0.l1 K g ps xs i) (fun j b=>b=true↔∃ q:Nat,q<j∧rd xs (q:Int)=symAt g (rd ps (i:Int))) (fun m b j hj hI=>by
  simp only [W0.l1]
  rw [if_pos (by omega)]
  cases b with
  | true =>
   refine ⟨true,by rw [if_pos rfl,wr (a:=(j:Int)+1) (by omega) (by omega)],⟨fun _=>?_,fun _=>rfl⟩⟩
   obtain ⟨q,h1,h2⟩:=hI.1 rfl
   exact ⟨q,by omega,h2⟩
  | false =>
   refine ⟨decide (rd xs (j:Int)=symAt g (rd ps (i:Int))),by rw [if_neg (by decide),if_pos (Int.natCast_nonneg j),if_pos hok.2.2.2.2.1,if_pos hin,wr (a:=(j:Int)+1) (by omega) (by omega)],?_⟩
   rw [decide_eq_true_iff]
   constructor
   ·intro h;exact ⟨j,by omega,h⟩
   ·rintro ⟨q,h1,h2⟩
    rcases Nat.lt_succ_iff_lt_or_eq.1 h1 with h1 | rfl
    ·have:=hI.2 ⟨q,h1,h2⟩;cases this
    ·exact h2) (fun m s=>by simp only [W0.l1];rw [if_neg (by omega)]) K (by omega) false ⟨fun h=>(by cases h),fun ⟨q,h,_⟩=>absurd h (Nat.not_lt_zero _)⟩
 refine ⟨b,h1,h2.trans ?_⟩
 rw [mem_rd]
 exact ⟨fun ⟨q,a,b⟩=>⟨q,a,b.symm⟩,fun ⟨q,a,b⟩=>⟨q,a,b.symm⟩⟩
theorem stand_spec (K:Nat) (hK:1000000≤K) {g:Grammar} (hg:Bd g) {ps:List Place} (hp:RL g ps):W0 K g ps=some (syms g ps):=by
 have hl:=hp.len hg
 obtain ⟨xs,h1,h2⟩:=invLoop (n:=ps.length) (W0.l0 K g ps) (fun j xs=>xs=syms g (ps.take j)) (fun m xs j hj hI=>by
  subst hI
  have hok:=hp.2 _ (mem_rd.2 ⟨j,hj,rfl⟩)
  have hsl:=syms_len g (ps.take j)
  rw [List.length_take] at hsl
  obtain ⟨q1,q2,q3,q4,q5,q6⟩:=hok
  simp only [W0.l0]
  rw [if_pos (by omega),if_pos (Int.natCast_nonneg j),if_pos q1,if_pos q2,if_pos q3,if_pos q4,take_rd hj,syms_snoc,wr (a:=(j:Int)+1) (by omega) (by omega)]
  by_cases hin:inner g (rd ps (j:Int))
  ·obtain ⟨b,e1,e2⟩:=stand_l1 K g ps (syms g (ps.take j)) j hj (hp.2 _ (mem_rd.2 ⟨j,hj,rfl⟩)) hin (by omega) hK
   rw [if_neg (show ¬ (rd ps (j:Int)).Pos=((seqOf g (rd ps (j:Int))).length:Int) from fun e=>by unfold inner at hin;omega),e1,Option.bind_some,show symS g (syms g (ps.take j)) (rd ps (j:Int))=(if symAt g (rd ps (j:Int)) ∈ syms g (ps.take j) then syms g (ps.take j) else syms g (ps.take j)++[symAt g (rd ps (j:Int))]) from if_pos hin]
   dsimp only
   cases b with
   | true =>
    rw [if_neg (by decide),if_pos (e2.1 rfl)]
    exact ⟨_,rfl,rfl⟩
   | false =>
    rw [if_pos (by decide),if_pos q5,if_pos hin,if_pos (by simp only [List.length_cons,List.length_nil];omega),if_neg (fun h=>by have:=e2.2 h;cases this)]
    exact ⟨_,rfl,rfl⟩
  ·rw [if_pos (show (rd ps (j:Int)).Pos=((seqOf g (rd ps (j:Int))).length:Int) by unfold inner at hin;omega),show symS g (syms g (ps.take j)) (rd ps (j:Int))=syms g (ps.take j) from if_neg hin]
   exact ⟨_,rfl,rfl⟩) (fun m s=>by simp only [W0.l0];rw [if_neg (by omega)]) K (by omega) [] (by simp [syms])
 rw [List.take_length] at h2
 unfold W0
 rw [h1,h2];rfl
theorem moved_spec (K:Nat) (hK:KW≤K) {g:Grammar} (hm:mayP g) {ps:List Place} (hp:RL g ps) (x:Symbol):L3 K g ps x=some (clos g (onX g ps x)):=by
 have hg:=may_bd hm
 have hl:=hp.len hg
 have hK':=hK
 unfold KW at hK'
 obtain ⟨xs,h1,h2⟩:=invLoop (n:=ps.length) (L3.l0 K g ps x) (fun j xs=>xs=onX g (ps.take j) x) (fun m xs j hj hI=>by
  subst hI
  have hok:=hp.2 _ (mem_rd.2 ⟨j,hj,rfl⟩)
  have hxl:=onX_len g (ps.take j) x
  have hbd:=ok_small hg hok
  rw [List.length_take] at hxl
  obtain ⟨q1,q2,q3,q4,q5,q6⟩:=hok
  simp only [L3.l0,V7]
  rw [if_pos (by omega),if_pos (Int.natCast_nonneg j),if_pos q1,if_pos q2,if_pos q3,if_pos q4,take_rd hj,onX_snoc,wr (a:=(j:Int)+1) (by omega) (by omega),wr (a:=(rd ps (j:Int)).Pos+1) (by omega) (by omega)]
  by_cases hin:inner g (rd ps (j:Int))
  ·rw [if_pos hin,if_pos q5,if_pos hin]
   by_cases hx:symAt g (rd ps (j:Int))=x
   ·rw [if_pos hx,Option.bind_some,if_pos (by simp only [List.length_cons,List.length_nil];omega),if_pos (show inner g (rd ps (j:Int))∧symAt g (rd ps (j:Int))=x from ⟨hin,hx⟩)]
    exact ⟨_,rfl,rfl⟩
   ·rw [if_neg hx,if_neg (show ¬ (inner g (rd ps (j:Int))∧symAt g (rd ps (j:Int))=x) from fun h=>hx h.2)]
    exact ⟨_,rfl,rfl⟩
  ·rw [if_neg hin,if_neg (show ¬ (inner g (rd ps (j:Int))∧symAt g (rd ps (j:Int))=x) from fun h=>hin h.1)]
   exact ⟨_,rfl,rfl⟩) (fun m s=>by simp only [L3.l0];rw [if_neg (by omega)]) K (by omega) [] (by simp [onX])
 rw [List.take_length] at h2
 have hxl:=onX_len g ps x
 unfold L3
 rw [h1,Option.bind_some,h2]
 show (k0 K g (onX g ps x)).bind _=_
 rw [closedR_eq K hK hm (onX_ok hp.2 x) (by omega)];rfl
theorem same_loop {T:Type} [Inhabited T] {K:Nat} {a b:List T} {L:Nat→Int→Option (Int ⊕ Bool)} (hK:a.length<K) (hlen:a.length=b.length)
  (step:∀ m (i:Nat),i<a.length→(rd a (i:Int)=rd b (i:Int)∧L (m+1) (i:Int)=L m ((i:Int)+1))∨(¬ rd a (i:Int)=rd b (i:Int)∧L (m+1) (i:Int)=some (.inr false))) (stop:∀ m,L (m+1) (a.length:Int)=some (.inl (a.length:Int))) (q:Prop) [Decidable q] (hq:q↔a=b):brk (L K 0) (fun _=>some true)=some (decide q):=by
 have ext:(∀ i:Nat,i<a.length→rd a (i:Int)=rd b (i:Int))→a=b:=fun h=>by
  apply List.ext_getElem hlen
  intro i h1 h2
  have:=h i h1
  rw [rd_nat,rd_nat,List.getD_eq_getElem?_getD,List.getD_eq_getElem?_getD,List.getElem?_eq_getElem h1,List.getElem?_eq_getElem h2] at this
  exact this
 rcases ask_all hK step stop with ⟨h1,h2⟩ | ⟨h1,h2⟩
 ·rw [h1,brk_l,decide_eq_true (hq.2 (ext h2))]
 ·rw [h1,brk_r,decide_eq_false fun h=>h2 fun i _=>by rw [hq.1 h]]
theorem samePlR_spec (K:Nat) (a b:List Place) (h:a.length<K) (hl:a.length≤9000000000000000000):Q3 K a b=some (decide (a=b)):=by
 unfold Q3
 by_cases hlen:a.length=b.length
 ·rw [if_neg (fun h=>h (by rw [hlen]))]
  refine same_loop h hlen (fun m i hi=>?_) (fun m=>by simp only [Q3.l0];rw [if_neg (by omega)]) _ Iff.rfl
  simp only [Q3.l0]
  rw [if_pos (by omega),if_pos (by omega),if_pos (by omega),wr (a:=(i:Int)+1) (by omega) (by omega)]
  by_cases e:rd a (i:Int)=rd b (i:Int)
  ·rw [if_neg (fun h=>h e)];exact .inl ⟨e,rfl⟩
  ·rw [if_pos e];exact .inr ⟨e,rfl⟩
 ·rw [if_pos (fun e=>hlen (by omega)),decide_eq_false (fun e=>hlen (by rw [e]))]
theorem SamePl_spec (K:Nat) (a b:List Place) (h:a.length<K) (hl:a.length≤9000000000000000000):G0 K a b=some (decide (a=b)):=by
 unfold G0
 by_cases hlen:a.length=b.length
 ·rw [if_neg (fun h=>h (by rw [hlen]))]
  refine same_loop h hlen (fun m i hi=>?_) (fun m=>by simp only [G0.l0];rw [if_neg (by omega)]) _ Iff.rfl
  simp only [G0.l0]
  rw [if_pos (by omega),if_pos (by omega),if_pos (by omega),wr (a:=(i:Int)+1) (by omega) (by omega)]
  by_cases e:rd a (i:Int)=rd b (i:Int)
  ·rw [if_neg (fun h=>h e)];exact .inl ⟨e,rfl⟩
  ·rw [if_pos e];exact .inr ⟨e,rfl⟩
 ·rw [if_pos (fun e=>hlen (by omega)),decide_eq_false (fun e=>hlen (by rw [e]))]
theorem SameMv_spec (K:Nat) (a b:List Move) (h:a.length<K) (hl:a.length≤9000000000000000000):Q2 K a b=some (decide (a=b)):=by
 unfold Q2
 by_cases hlen:a.length=b.length
 ·rw [if_neg (fun h=>h (by rw [hlen]))]
  refine same_loop h hlen (fun m i hi=>?_) (fun m=>by simp only [Q2.l0];rw [if_neg (by omega)]) _ Iff.rfl
  simp only [Q2.l0]
  rw [if_pos (by omega),if_pos (by omega),if_pos (by omega),wr (a:=(i:Int)+1) (by omega) (by omega)]
  by_cases e:rd a (i:Int)=rd b (i:Int)
  ·rw [if_neg (fun h=>h e)];exact .inl ⟨e,rfl⟩
  ·rw [if_pos e];exact .inr ⟨e,rfl⟩
 ·rw [if_pos (fun e=>hlen (by omega)),decide_eq_false (fun e=>hlen (by rw [e]))]
theorem ref_l2 (K:Nat) (hK:1000000≤K) {g:Grammar} (hg:Bd g) {S:List (List Place)} {r:List Place} (hS:∀ q ∈ S,RL g q) (hl:S.length≤1000):Q0.l2 K S r K 0=some (ixOf S r:Int):=by
 obtain ⟨k,h1,h2,h3,h4⟩:=stop_loop (n:=S.length) (K:=K) (L:=Q0.l2 K S r) (q:=fun i=>rd S (i:Int)≠r) (by omega) (fun m i hi=>by
  have:=(hS _ (mem_rd.2 ⟨i,hi,rfl⟩)).len hg
  simp only [Q0.l2]
  rw [if_pos (by omega),if_pos (Int.natCast_nonneg i),samePlR_spec K _ _ (by omega) (by omega),Option.bind_some,wr (a:=(i:Int)+1) (by omega) (by omega)]
  by_cases e:rd S (i:Int)=r
  ·rw [decide_eq_true e,if_neg (by decide)];exact .inr ⟨fun h=>h e,rfl⟩
  ·rw [decide_eq_false e,if_pos (by decide)];exact .inl ⟨e,rfl⟩) (fun m=>by simp only [Q0.l2];rw [if_neg (by omega)])
 rw [h2,ixOf_is h1 h3 fun h=>Classical.not_not.1 (h4 h)]
theorem ref_l1 (K:Nat) (hK:KW≤K) {g:Grammar} (hm:mayP g) {i:Nat} {ps:List Place} (hp:RL g ps):∀ (k j q:Nat) (S:List (List Place)) (M:List Move),j+k=(syms g ps).length→k<q→(∀ r ∈ S,RL g r)→S.length≤256→i<S.length→rd S (i:Int)=ps→M.length+k≤200000000 →
  Q0.l1 K g i (syms g ps) q (M,S,(j:Int))=if (((syms g ps).drop j).foldl (stp g i ps) (S,M)).1.length≤256 then some (.inl ((((syms g ps).drop j).foldl (stp g i ps) (S,M)).2,(((syms g ps).drop j).foldl (stp g i ps) (S,M)).1,((syms g ps).length:Int))) else some (.inr (.inr (⟨[],[]⟩,1301)))
 | 0,j,q,S,M,hj,hq,hS,hl,hi,hr,hM=>by
  obtain ⟨q,rfl⟩:∃ p,q=p+1:=⟨q-1,by omega⟩
  have:j=(syms g ps).length:=by omega
  subst this
  rw [List.drop_length,List.foldl_nil,if_pos hl]
  simp only [Q0.l1]
  rw [if_neg (by omega)]
 | k+1,j,q,S,M,hj,hq,hS,hl,hi,hr,hM=>by
  have hg:=may_bd hm
  have hK':=hK
  unfold KW at hK'
  obtain ⟨q,rfl⟩:∃ p,q=p+1:=⟨q-1,by omega⟩
  have hjl:j<(syms g ps).length:=by omega
  have hsl:=syms_len g ps
  have hpl:=hp.len hg
  have ed:(syms g ps).drop j=rd (syms g ps) (j:Int)::(syms g ps).drop (j+1):=by
   rw [List.drop_eq_getElem_cons hjl,rd_nat,List.getD_eq_getElem?_getD,List.getElem?_eq_getElem hjl];rfl
  have hxr:=clos_onX hm hp (rd (syms g ps) (j:Int))
  rw [ed,List.foldl_cons]
  simp only [Q0.l1,sym_eta]
  rw [if_pos (by omega),if_pos (by omega),if_pos (Int.natCast_nonneg j),hr,moved_spec K hK hm hp,Option.bind_some,ref_l2 K (by omega) hg hS (by omega),Option.bind_some]
  have next:∀ S',S'=addS S (clos g (onX g ps (rd (syms g ps) (j:Int))))→S'.length≤256→(if (M.length+([(⟨(i:Int),rd (syms g ps) (j:Int),(ixOf S (clos g (onX g ps (rd (syms g ps) (j:Int)))):Int)⟩:Move)]:List Move).length)*40≤140737488355328 then Q0.l1 K g i (syms g ps) q (M++([(⟨(i:Int),rd (syms g ps) (j:Int),(ixOf S (clos g (onX g ps (rd (syms g ps) (j:Int)))):Int)⟩:Move)]:List Move),S',IntKind.wrap .i64 ((j:Int)+1)) else none)=(if (((syms g ps).drop (j+1)).foldl (stp g i ps) (stp g i ps (S,M) (rd (syms g ps) (j:Int)))).1.length≤256 then some (.inl ((((syms g ps).drop (j+1)).foldl (stp g i ps) (stp g i ps (S,M) (rd (syms g ps) (j:Int)))).2,(((syms g ps).drop (j+1)).foldl (stp g i ps) (stp g i ps (S,M) (rd (syms g ps) (j:Int)))).1,((syms g ps).length:Int))) else some (.inr (.inr (⟨[],[]⟩,1301)))):=fun S' e hl'=>by
   have hal:=addS_len S (clos g (onX g ps (rd (syms g ps) (j:Int))))
   rw [if_pos (by simp only [List.length_cons,List.length_nil];omega),wr (a:=(j:Int)+1) (by omega) (by omega)]
   have hrl':∀ r ∈ S',RL g r:=e ▸ addS_rl hS hxr
   have hi':i<S'.length:=by rw [e];omega
   have hr':rd S' (i:Int)=ps:=by rw [e,addS_pre _ hi];exact hr
   have:=ref_l1 K hK hm hp k (j+1) q S' (M++[(⟨(i:Int),rd (syms g ps) (j:Int),(ixOf S (clos g (onX g ps (rd (syms g ps) (j:Int)))):Int)⟩:Move)]) (by omega) (by omega) hrl' hl' hi' hr' (by simp only [List.length_append,List.length_cons,List.length_nil];omega)
   rw [show ((j+1:Nat):Int)=(j:Int)+1 by omega] at this
   rw [this,e];rfl
  by_cases hmem:clos g (onX g ps (rd (syms g ps) (j:Int))) ∈ S
  ·have hlt:=ixOf_mem hmem
   rw [if_neg (by omega),brk_l]
   exact next S (by unfold addS;rw [if_pos hmem]) hl
  ·have heq:=ixOf_no hmem
   rw [if_pos (by omega)]
   by_cases h256:S.length=256
   ·rw [if_pos (by omega),brk_r]
    have hfl:=(fold_stp_len g i ps ((syms g ps).drop (j+1)) (stp g i ps (S,M) (rd (syms g ps) (j:Int)))).1
    have hl2:(stp g i ps (S,M) (rd (syms g ps) (j:Int))).1.length=257:=by
     simp only [stp,addS];rw [if_neg hmem];simp [h256]
    rw [if_neg (by omega)]
   ·rw [if_neg (by omega),if_pos (by simp only [List.length_cons,List.length_nil];omega),brk_l]
    exact next (S++[clos g (onX g ps (rd (syms g ps) (j:Int)))]) (by unfold addS;rw [if_neg hmem]) (by simp;omega)
theorem ref_l0 (K:Nat) (hK:KW≤K) {g:Grammar} (hm:mayP g):∀ (f:Nat) (S:List (List Place)) (M:List Move) (i q:Nat),f+i=258→f<q→(∀ r ∈ S,RL g r)→S.length≤256→i≤S.length→M.length≤i*262144 →
  brk (Q0.l0 K g q (M,S,(i:Int))) (fun x=>some ((⟨x.2.1,x.1⟩:Automaton),(0:Int)))=some (resB (bldL g f S M i))
 | 0,S,M,i,q,hf,hq,hS,hl,hi,hM=>by omega
 | f+1,S,M,i,q,hf,hq,hS,hl,hi,hM=>by
  have hg:=may_bd hm
  have hK':=hK
  unfold KW at hK'
  obtain ⟨q,rfl⟩:∃ p,q=p+1:=⟨q-1,by omega⟩
  simp only [Q0.l0,bldL]
  by_cases hiS:i<S.length
  ·have hp:RL g (rd S (i:Int)):=hS _ (mem_rd.2 ⟨i,hiS,rfl⟩)
   have hsl:=syms_len g (rd S (i:Int))
   have hpl:=hp.len hg
   have hlen:=fold_stp_len g i (rd S (i:Int)) (syms g (rd S (i:Int))) (S,M)
   have hrl:=fold_stp_rl hm i hp (syms g (rd S (i:Int))) (S,M) hS
   rw [if_pos (by omega),if_pos (Int.natCast_nonneg i),if_pos hiS,stand_spec K (by omega) hg hp,Option.bind_some]
   have h1:=ref_l1 K hK hm (i:=i) hp (syms g (rd S (i:Int))).length 0 K S M (by omega) (by omega) hS hl hiS rfl (by omega)
   rw [show ((0:Nat):Int)=0 from rfl,List.drop_zero] at h1
   rw [h1]
   show brk (brk (if (stA g i (rd S (i:Int)) (S,M)).1.length≤256 then some (.inl ((stA g i (rd S (i:Int)) (S,M)).2,(stA g i (rd S (i:Int)) (S,M)).1,((syms g (rd S (i:Int))).length:Int))) else (some (.inr (.inr ((⟨[],[]⟩:Automaton),(1301:Int)))):Option ((List Move×List (List Place)×Int) ⊕ ((List Move×List (List Place)×Int) ⊕ (Automaton×Int))))) _) _=_
   by_cases h256:256<(stA g i (rd S (i:Int)) (S,M)).1.length
   ·rw [if_neg (by omega),if_pos h256,brk_r,brk_r];rfl
   ·rw [if_pos (by omega),if_neg h256,brk_l]
    dsimp only
    rw [wr (a:=(i:Int)+1) (by omega) (by omega)]
    have:=ref_l0 K hK hm f (stA g i (rd S (i:Int)) (S,M)).1 (stA g i (rd S (i:Int)) (S,M)).2 (i+1) q (by omega) (by omega) hrl (by omega) (by unfold stA;have:=hlen.1;dsimp only at this;omega) (by
     have a:=hlen.2.2.1
     unfold stA;dsimp only at a;omega)
    rw [show ((i+1:Nat):Int)=(i:Int)+1 by omega] at this
    exact this
  ·rw [if_neg (by omega),if_neg hiS,brk_l];rfl
theorem Cl.mono {g:Grammar} {a b:List Place} (h:∀ p ∈ a,p ∈ b) {p:Place} (hc:Cl g a p):Cl g b p:=by
 induction hc with
 | base h1=>exact .base (h _ h1)
 | step _ h2 h3 ih=>exact .step ih h2 h3
theorem IsCl.congr {g:Grammar} {a b out:List Place} (h:IsCl g a out) (hm:∀ p,p ∈ a↔p ∈ b):IsCl g b out:=⟨h.1,fun p=>(h.2 p).trans ⟨Cl.mono fun q hq=>(hm q).1 hq,Cl.mono fun q hq=>(hm q).2 hq⟩⟩
noncomputable def autOf (g:Grammar):Option Automaton:=bldL g 258 [clos g (begs g g.Start)] [] 0
theorem Build_both (K:Nat) (hK:KW≤K) (g:Grammar):∃ b:Bool,(b=true↔mayP g)∧W3 K g=some (if b=true then resB (autOf g) else (⟨[],[]⟩,1300))∧Q0 K g=some (if b=true then resB (autOf g) else (⟨[],[]⟩,1300)):=by
 have hK':=hK
 unfold KW at hK'
 obtain ⟨b,hb,hbm⟩:=gMay_spec K (by omega) g
 obtain ⟨b2,hb2,hbm2⟩:=rMay_spec K (by omega) g
 have e:b2=b:=by cases b <;> cases b2 <;> simp_all
 subst e
 refine ⟨b2,hbm,?_⟩
 unfold W3 Q0
 rw [hb,Option.bind_some,hb2,Option.bind_some]
 cases b2 with
 | false=>exact ⟨rfl,rfl⟩
 | true =>
  have hm:=hbm.1 rfl
  have hg:=may_bd hm
  have hbo:okL g (begs g g.Start):=fun p hp=>begs_ok hp
  have hbl:=begs_len hg g.Start
  have hcl:=clos_is hm hbo (by omega)
  have hrl:=hcl.rl hbo
  rw [if_neg (show ¬ (!true)=true by decide),if_neg (show ¬ (!true)=true by decide),if_pos (show true=true from rfl)]
  constructor
  ·rw [begins_spec K (by omega) g hg,Option.bind_some,closedP_eq K hK hm hbo (by omega),Option.bind_some]
   obtain ⟨m',h1,h2⟩:=state_spec K (by omega) hg (S:=[]) (M:=[]) (m:=[]) hrl (by simp) (fun q _=>by simp [mget]) (by simp)
   rw [h1,Option.bind_some]
   have h3:addS [] (clos g (begs g g.Start))=[clos g (begs g g.Start)]:=rfl
   rw [h3] at h2 ⊢
   dsimp only
   have:=build_l0 K hK hm 258 [clos g (begs g g.Start)] [] m' 0 K (by omega) (by omega) (by simpa using hrl) h2 (by simp) (by simp) (by simp)
   exact this
  ·obtain ⟨o,h1,h2,h3⟩:=begun_spec K (by omega) g hg g.Start [] ⟨by simp,by simp⟩
   have hol:=h2.len hg
   have e2:clos g o=clos g (begs g g.Start):=clos_of (hcl.congr fun p=>by rw [h3];simp)
   rw [h1,Option.bind_some,closedR_eq K hK hm h2.2 (by omega),Option.bind_some,e2]
   have:=ref_l0 K hK hm 258 [clos g (begs g g.Start)] [] 0 K (by omega) (by omega) (by simpa using hrl) (by simp) (by simp) (by simp)
   exact this
end Go.Proofs.Ytgmnohjaciemmaa

