import Derived.Test.YtcoineklodmbnaaGreatW12
set_option linter.unusedVariables false
set_option linter.unusedSimpArgs false
namespace Go.Proofs.YtcoineklodmbnaaGreat
open S
set_option maxRecDepth 10000
def wsum (f:Nat→Nat):Nat→Nat
 | 0=>0
 | n+1=>wsum f n+f n
theorem wsum_add (f h:Nat→Nat):∀ n,wsum (fun k=>f k+h k) n=wsum f n+wsum h n
 | 0=>rfl
 | n+1=>by simp only [wsum,wsum_add f h n];omega
theorem wsum_congr {f h:Nat→Nat}:∀ {n},(∀ k,k<n→f k=h k)→wsum f n=wsum h n
 | 0,_=>rfl
 | n+1,e=>by simp only [wsum];rw [wsum_congr fun k hk=>e k (by omega),e n (by omega)]
theorem wsum_le {f h:Nat→Nat}:∀ {n},(∀ k,k<n→f k≤h k)→wsum f n≤wsum h n
 | 0,_=>Nat.le_refl _
 | n+1,e=>by simp only [wsum];have:=wsum_le (n:=n) fun k hk=>e k (by omega);have:=e n (by omega);omega
theorem wsum_const (v:Nat):∀ n,wsum (fun _=>v) n=n*v
 | 0=>by simp [wsum]
 | n+1=>by simp only [wsum,wsum_const v n];rw [Nat.succ_mul]
theorem wsum_upd {f h:Nat→Nat}{a:Nat}:∀ {n},(∀ k,k<n→k≠a→h k=f k)→a<n→wsum h n+f a=wsum f n+h a
 | 0,_,ha=>by omega
 | n+1,e,ha=>by
  simp only [wsum]
  by_cases c:a=n
  ·subst c;rw [wsum_congr (f:=h) (h:=f) fun k hk=>e k (by omega) (by omega)];omega
  ·have:=wsum_upd (f:=f) (h:=h) (a:=a) (n:=n) (fun k hk hne=>e k (by omega) hne) (by omega);have:=e n (by omega) (fun x=>c x.symm);omega
theorem wsum_mul (f:Nat→Nat)(v:Nat):∀ n,wsum (fun k=>f k*v) n=wsum f n*v
 | 0=>by simp [wsum]
 | n+1=>by simp only [wsum,wsum_mul f v n];rw [Nat.add_mul]
abbrev P3:=Nat×Nat×Nat
def tripC (r c n:Nat):List P3:=(List.range (n+1)).map fun m=>(r,c,m)
def tripTo (g:Grammar)(r c:Nat):List P3:=(List.range c).flatMap fun c=>tripC r c (sq g r c).length
def tripAll (g:Grammar)(r:Nat):List P3:=(List.range r).flatMap fun r=>tripTo g r (nc g r)
def trip (g:Grammar):List P3:=tripAll g g.Rules.length
theorem tripTo_succ (g:Grammar)(r c:Nat):tripTo g r (c+1)=tripTo g r c++tripC r c (sq g r c).length:=by simp [tripTo,List.range_succ]
theorem tripAll_succ (g:Grammar)(r:Nat):tripAll g (r+1)=tripAll g r++tripTo g r (nc g r):=by simp [tripAll,List.range_succ]
theorem rd_app_ge {T:Type}[Inhabited T]{xs ys:List T}{k:Nat}(h:xs.length≤k):rd (xs++ys) (k:Int)=rd ys ((k-xs.length:Nat):Int):=by
 simp [rd,List.getD_eq_getElem?_getD,List.getElem?_append_right h]
structure Adj (g:Grammar)(T:List P3):Prop where
 ok:∀ p,p<T.length→(rd T (p:Int)).2.2≤(sq g (rd T (p:Int)).1 (rd T (p:Int)).2.1).length
 nx:∀ p,p<T.length→(rd T (p:Int)).2.2<(sq g (rd T (p:Int)).1 (rd T (p:Int)).2.1).length→p+1<T.length∧rd T ((p+1:Nat):Int)=((rd T (p:Int)).1,(rd T (p:Int)).2.1,(rd T (p:Int)).2.2+1)
 pv:∀ p,p<T.length→0<(rd T (p:Int)).2.2→0<p∧rd T ((p-1:Nat):Int)=((rd T (p:Int)).1,(rd T (p:Int)).2.1,(rd T (p:Int)).2.2-1)
theorem Adj.nil (g:Grammar):Adj g []:=⟨fun p h=>by simp at h,fun p h=>by simp at h,fun p h=>by simp at h⟩
theorem Adj.app {g:Grammar}{A B:List P3}(hA:Adj g A)(hB:Adj g B):Adj g (A++B):=by
 have lt:∀ p,p<A.length→rd (A++B) (p:Int)=rd A (p:Int):=fun p h=>rd_app_lt h
 have ge:∀ p,A.length≤p→rd (A++B) (p:Int)=rd B ((p-A.length:Nat):Int):=fun p h=>rd_app_ge h
 refine ⟨fun p hp=>?_,fun p hp hm=>?_,fun p hp hm=>?_⟩
 ·rw [List.length_append] at hp
  by_cases c:p<A.length
  ·rw [lt p c];exact hA.ok p c
  ·rw [ge p (by omega)];exact hB.ok _ (by omega)
 ·rw [List.length_append] at hp ⊢
  by_cases c:p<A.length
  ·rw [lt p c] at hm ⊢;obtain ⟨h1,h2⟩:=hA.nx p c hm;exact ⟨by omega,by rw [lt _ h1];exact h2⟩
  ·rw [ge p (by omega)] at hm ⊢;obtain ⟨h1,h2⟩:=hB.nx _ (by omega) hm;refine ⟨by omega,?_⟩;rw [ge _ (by omega),show p+1-A.length=p-A.length+1 by omega];exact h2
 ·rw [List.length_append] at hp
  by_cases c:p<A.length
  ·rw [lt p c] at hm ⊢;obtain ⟨h1,h2⟩:=hA.pv p c hm;exact ⟨h1,by rw [lt _ (by omega)];exact h2⟩
  ·rw [ge p (by omega)] at hm ⊢;obtain ⟨h1,h2⟩:=hB.pv _ (by omega) hm;refine ⟨by omega,?_⟩;rw [ge _ (by omega),show p-1-A.length=p-A.length-1 by omega];exact h2
theorem tripC_len (r c n:Nat):(tripC r c n).length=n+1:=by simp [tripC]
theorem tripC_rd {r c n p:Nat}(h:p<n+1):rd (tripC r c n) (p:Int)=(r,c,p):=by
 unfold tripC;rw [rd_map (by simpa using h)];rw [rd_nat,List.getD_eq_getElem?_getD,List.getElem?_range h];rfl
theorem tripC_adj (g:Grammar)(r c:Nat):Adj g (tripC r c (sq g r c).length):=by
 refine ⟨fun p hp=>?_,fun p hp hm=>?_,fun p hp hm=>?_⟩
 all_goals rw [tripC_len] at hp
 ·rw [tripC_rd hp];simp only;omega
 ·rw [tripC_rd hp] at hm ⊢;simp only at hm;rw [tripC_len];exact ⟨by omega,tripC_rd (by omega)⟩
 ·rw [tripC_rd hp] at hm ⊢;simp only at hm;exact ⟨hm,tripC_rd (by omega)⟩
theorem tripTo_adj (g:Grammar)(r:Nat):∀ c,Adj g (tripTo g r c)
 | 0=>Adj.nil g
 | c+1=>by rw [tripTo_succ];exact (tripTo_adj g r c).app (tripC_adj g r c)
theorem tripAll_adj (g:Grammar):∀ r,Adj g (tripAll g r)
 | 0=>Adj.nil g
 | r+1=>by rw [tripAll_succ];exact (tripAll_adj g r).app (tripTo_adj g r _)
theorem tripC_mem {r c n:Nat}{t:P3}(h:t ∈ tripC r c n):t.1=r∧t.2.1=c:=by
 obtain ⟨m,_,rfl⟩:=List.mem_map.1 h;exact ⟨rfl,rfl⟩
theorem tripTo_mem {g:Grammar}{r c:Nat}{t:P3}(h:t ∈ tripTo g r c):t.1=r∧t.2.1<c:=by
 obtain ⟨c',h1,h2⟩:=List.mem_flatMap.1 h;obtain ⟨e1,e2⟩:=tripC_mem h2;exact ⟨e1,by rw [e2];exact List.mem_range.1 h1⟩
theorem tripAll_mem {g:Grammar}{r:Nat}{t:P3}(h:t ∈ tripAll g r):t.1<r∧t.2.1<nc g t.1:=by
 obtain ⟨r',h1,h2⟩:=List.mem_flatMap.1 h;obtain ⟨e1,e2⟩:=tripTo_mem h2;rw [e1];exact ⟨List.mem_range.1 h1,e2⟩
theorem tripTo_len (g:Grammar)(r c:Nat)(h:c≤nc g r):(tripTo g r c).length=sumC ((rd g.Rules (r:Int)).Conj.take c)+c:=by
 induction c with
 | zero=>simp [tripTo,sumC]
 | succ c ih =>
  rw [tripTo_succ,List.length_append,tripC_len,ih (by omega),take_succ_rd (show c<(rd g.Rules (r:Int)).Conj.length from h)];have app:∀ (a:List Conjunct) (x:Conjunct),sumC (a++[x])=sumC a+x.Seq.length:=fun a x=>by
   induction a with
   | nil=>simp [sumC]
   | cons y a ih=>rw [List.cons_append,sumC,sumC,ih];omega
  rw [app];show _+((sq g r c).length+1)=_+(sq g r c).length+(c+1);omega
theorem tripAll_len (g:Grammar):∀ r,r≤g.Rules.length→(tripAll g r).length=total (g.Rules.take r)+wsum (nc g) r
 | 0,_=>by simp [tripAll,total,wsum]
 | r+1,h=>by
  have app:∀ (a:List Rule) (x:Rule),total (a++[x])=total a+sumR x:=fun a x=>by
   induction a with
   | nil=>simp [total]
   | cons y a ih=>rw [List.cons_append,total,total,ih];omega
  rw [tripAll_succ,List.length_append,tripAll_len g r (by omega),tripTo_len g r _ (Nat.le_refl _),take_succ_rd (show r<g.Rules.length from h),app,List.take_of_length_le (Nat.le_refl _)];simp only [wsum];show _+(sumC (rd g.Rules (r:Int)).Conj+nc g r)=_+sumC (rd g.Rules (r:Int)).Conj+_;omega
theorem trip_len {g:Grammar}(hm:mayP g):(trip g).length≤3072:=by
 unfold trip;rw [tripAll_len g _ (Nat.le_refl _),List.take_of_length_le (Nat.le_refl _)];have h1:total g.Rules≤1024:=hm.2.2.2.2.2.2.2;have h2:g.Rules.length≤256:=hm.2.2.2.2.1;have h3:wsum (nc g) g.Rules.length≤wsum (fun _=>8) g.Rules.length:=wsum_le fun k hk=>((may_bd hm).2 _ (rd_mem' hk)).1
 rw [wsum_const] at h3;omega
theorem conj_le (g:Grammar):wsum (nc g) g.Rules.length≤(trip g).length:=by
 unfold trip;rw [tripAll_len g _ (Nat.le_refl _)];omega
def mkP (g:Grammar)(xs:List Int)(t:P3):W2:=⟨if t.2.2<(sq g t.1 t.2.1).length then rd (sq g t.1 t.2.1) (t.2.2:Int) else ⟨0,0,0⟩,decide ((t.2.2:Int)=((sq g t.1 t.2.1).length:Int)),decide ((t.2.2:Int)=0),(rd (rd g.Rules (t.1:Int)).Conj (t.2.1:Int)).Neg,(t.1:Int),rd xs (rd g.Rules (t.1:Int)).Head⟩
def nmAt (g:Grammar)(t:P3)(x:Nat):Prop:=t.2.2<(sq g t.1 t.2.1).length∧(rd (sq g t.1 t.2.1) (t.2.2:Int)).Name=(x:Int)
structure AtOk (g:Grammar)(T:List P3)(at_:List (List Int)):Prop where
 len:at_.length=g.Names.length
 mem:∀ x:Nat,x<g.Names.length→∀ v:Int,v ∈ rd at_ (x:Int)↔∃ p:Nat,p<T.length∧v=(p:Int)∧nmAt g (rd T (p:Int)) x
 sum:wsum (fun x=>(rd at_ (x:Int)).length) g.Names.length≤T.length
structure TS where
 g:Grammar
 xs:List Int
 most:Int
 pl:List W2
 bg:List (List Int)
 at_:List (List Int)
 w:List Int
abbrev E (s:TS)(C:List M0)(n:Nat)(td:List Int):y0:=⟨s.g,s.xs,s.most,s.pl,s.bg,s.at_,s.w,C,(n:Int),td⟩
abbrev tg (g:Grammar)(p:Nat):P3:=rd (trip g) (p:Int)
abbrev psq (g:Grammar)(p:Nat):List Symbol:=sq g (tg g p).1 (tg g p).2.1
def rest (g:Grammar)(p:Nat):List Symbol:=(psq g p).drop (tg g p).2.2
abbrev plv (s:TS)(p:Nat):Int:=rd s.xs (rd s.g.Rules ((tg s.g p).1:Int)).Head
abbrev png (g:Grammar)(p:Nat):Bool:=(rd (rd g.Rules ((tg g p).1:Int)).Conj ((tg g p).2.1:Int)).Neg
abbrev psy (g:Grammar)(p:Nat):Symbol:=rd (psq g p) ((tg g p).2.2:Int)
structure TX (s:TS):Prop where
 cx:CX s.g s.xs s.w
 m0:0≤s.most∧s.most≤64
 ml:∀ r,r<s.g.Rules.length→rd s.xs (rd s.g.Rules (r:Int)).Head≤s.most
 pl:s.pl=(trip s.g).map (mkP s.g s.xs)
 b1:s.bg.length=s.g.Rules.length
 b2:∀ r,r<s.g.Rules.length→(rd s.bg (r:Int)).length=nc s.g r
 b3:∀ r,r<s.g.Rules.length→∀ c,c<nc s.g r→∃ b:Nat,rd (rd s.bg (r:Int)) (c:Int)=(b:Int)∧b<(trip s.g).length∧tg s.g b=(r,c,0)
 at_:AtOk s.g (trip s.g) s.at_
theorem TX.pn {s:TS}(h:TX s):(trip s.g).length≤3072:=trip_len h.cx.may
theorem TX.pll {s:TS}(h:TX s):s.pl.length=(trip s.g).length:=by rw [h.pl,List.length_map]
theorem TX.plr {s:TS}(h:TX s){p:Nat}(hp:p<(trip s.g).length):rd s.pl (p:Int)=mkP s.g s.xs (tg s.g p):=by rw [h.pl,rd_map hp]
theorem fj {g:Grammar}{p:Nat}(hp:p<(trip g).length):(tg g p).1<g.Rules.length∧(tg g p).2.1<nc g (tg g p).1:=tripAll_mem (rd_mem' hp)
theorem gl {g:Grammar}{p:Nat}(hp:p<(trip g).length):(tg g p).2.2≤(psq g p).length:=(tripAll_adj g _).ok p hp
theorem Jh {g:Grammar}{p:Nat}(hp:p<(trip g).length)(hm:(tg g p).2.2<(psq g p).length):p+1<(trip g).length∧tg g (p+1)=((tg g p).1,(tg g p).2.1,(tg g p).2.2+1):=(tripAll_adj g _).nx p hp hm
theorem Jk {g:Grammar}{p:Nat}(hp:p<(trip g).length)(hm:0<(tg g p).2.2):0<p∧tg g (p-1)=((tg g p).1,(tg g p).2.1,(tg g p).2.2-1):=(tripAll_adj g _).pv p hp hm
theorem rest_last {g:Grammar}{p:Nat}(h:(tg g p).2.2=(psq g p).length):rest g p=[]:=by unfold rest;rw [h];exact List.drop_length
theorem rest_next {g:Grammar}{p:Nat}(hp:p<(trip g).length)(h:(tg g p).2.2<(psq g p).length):rest g p=psy g p::rest g (p+1):=by
 unfold rest;have e:psq g (p+1)=psq g p:=by show sq g (tg g (p+1)).1 (tg g (p+1)).2.1=_;rw [(Jh hp h).2]
 rw [e,(Jh hp h).2,List.drop_eq_getElem_cons h]
 congr 1
 show _=rd (psq g p) ((tg g p).2.2:Int);rw [rd_nat,List.getD_eq_getElem?_getD,List.getElem?_eq_getElem h];rfl
theorem rest_sub {g:Grammar}{p:Nat}{y:Symbol}(h:y ∈ rest g p):y ∈ psq g p:=List.mem_of_mem_drop h
def NT (C:List M0):Sp:=fun x i k=>bit (rd (rd C (k:Int)).names x) i=true
def RT (C:List M0)(p i k:Nat):Prop:=bit (rd (rd C (k:Int)).rests (p:Int)) i=true
structure ShT (s:TS)(C:List M0):Prop where
 n1:∀ k,k<C.length→(rd C (k:Int)).names.length=s.g.Names.length
 n2:∀ k,k<C.length→∀ x:Nat,x<s.g.Names.length→okW (rd (rd C (k:Int)).names (x:Int))
 r1:∀ k,k<C.length→(rd C (k:Int)).rests.length=(trip s.g).length
 r2:∀ k,k<C.length→∀ p:Nat,p<(trip s.g).length→okW (rd (rd C (k:Int)).rests (p:Int))
def setR (C:List M0)(j p:Nat)(v:Int):List M0:=C.set j ⟨(rd C (j:Int)).names,(rd C (j:Int)).rests.set p v⟩
def setM (C:List M0)(j x:Nat)(v:Int):List M0:=C.set j ⟨(rd C (j:Int)).names.set x v,(rd C (j:Int)).rests⟩
theorem setR_len (C:List M0)(j p:Nat)(v:Int):(setR C j p v).length=C.length:=by simp [setR]
theorem setM_len (C:List M0)(j p:Nat)(v:Int):(setM C j p v).length=C.length:=by simp [setM]
theorem setR_nm (C:List M0)(j p:Nat)(v:Int)(k:Nat):(rd (setR C j p v) (k:Int)).names=(rd C (k:Int)).names:=by
 unfold setR;rw [rd_set']
 split
 ·rename_i h;rw [← h.1]
 ·rfl
theorem setM_rs (C:List M0)(j p:Nat)(v:Int)(k:Nat):(rd (setM C j p v) (k:Int)).rests=(rd C (k:Int)).rests:=by
 unfold setM;rw [rd_set']
 split
 ·rename_i h;rw [← h.1]
 ·rfl
theorem setR_NT (C:List M0)(j p:Nat)(v:Int):NT (setR C j p v)=NT C:=by
 funext x i k;unfold NT;rw [setR_nm]
theorem setM_RT (C:List M0)(j x:Nat)(v:Int)(p i k:Nat):RT (setM C j x v) p i k↔RT C p i k:=by unfold RT;rw [setM_rs]
theorem setR_shp {s:TS}{C:List M0}(h:ShT s C){j p:Nat}{v:Int}(hj:j<C.length)(hv:okW v):ShT s (setR C j p v):=by
 refine ⟨fun k hk=>?_,fun k hk x hx=>?_,fun k hk=>?_,fun k hk q hq=>?_⟩
 all_goals rw [setR_len] at hk
 ·rw [setR_nm];exact h.n1 k hk
 ·rw [setR_nm];exact h.n2 k hk x hx
 ·unfold setR;rw [rd_set']
  split
  ·simp only [List.length_set];exact h.r1 j hj
  ·exact h.r1 k hk
 ·unfold setR;rw [rd_set']
  split
  ·simp only [rd_set']
   split
   ·exact hv
   ·exact h.r2 j hj q hq
  ·exact h.r2 k hk q hq
theorem setM_shp {s:TS}{C:List M0}(h:ShT s C){j p:Nat}{v:Int}(hj:j<C.length)(hv:okW v):ShT s (setM C j p v):=by
 refine ⟨fun k hk=>?_,fun k hk q hq=>?_,fun k hk=>?_,fun k hk x hx=>?_⟩
 all_goals rw [setM_len] at hk
 ·unfold setM;rw [rd_set']
  split
  ·simp only [List.length_set];exact h.n1 j hj
  ·exact h.n1 k hk
 ·unfold setM;rw [rd_set']
  split
  ·simp only [rd_set']
   split
   ·exact hv
   ·exact h.n2 j hj q hq
  ·exact h.n2 k hk q hq
 ·rw [setM_rs];exact h.r1 k hk
 ·rw [setM_rs];exact h.r2 k hk x hx
theorem setR_bit {s:TS}{C:List M0}(h:ShT s C){j p i:Nat}(hj:j<C.length)(hp:p<(trip s.g).length)(hi:i<64)(q i' k:Nat) :
  bit (rd (rd (setR C j p (ior .u64 (rd (rd C (j:Int)).rests (p:Int)) (ishl .u64 1 (i:Int)))) (k:Int)).rests (q:Int)) i'=(bit (rd (rd C (k:Int)).rests (q:Int)) i' || decide (k=j∧q=p∧i'=i)):=by
 unfold setR;rw [rd_set']
 by_cases e:j=k
 ·subst e;rw [if_pos ⟨rfl,hj⟩];show bit (rd (List.set _ _ _) _) _=_;rw [rd_set']
  by_cases e2:p=q
  ·subst e2;rw [if_pos ⟨rfl,by rw [h.r1 j hj];exact hp⟩,or_bit (h.r2 j hj p hp) hi];simp
  ·rw [if_neg (fun z=>e2 z.1),decide_eq_false (fun z=>e2 z.2.1.symm),Bool.or_false]
 ·rw [if_neg (fun z=>e z.1),decide_eq_false (fun z=>e z.1.symm),Bool.or_false]
theorem setM_bit {s:TS}{C:List M0}(h:ShT s C){j p i:Nat}(hj:j<C.length)(hp:p<s.g.Names.length)(hi:i<64)(q i' k:Nat) :
  bit (rd (rd (setM C j p (ior .u64 (rd (rd C (j:Int)).names (p:Int)) (ishl .u64 1 (i:Int)))) (k:Int)).names (q:Int)) i'=(bit (rd (rd C (k:Int)).names (q:Int)) i' || decide (k=j∧q=p∧i'=i)):=by
 unfold setM;rw [rd_set']
 by_cases e:j=k
 ·subst e;rw [if_pos ⟨rfl,hj⟩];show bit (rd (List.set _ _ _) _) _=_;rw [rd_set']
  by_cases e2:p=q
  ·subst e2;rw [if_pos ⟨rfl,by rw [h.n1 j hj];exact hp⟩,or_bit (h.n2 j hj p hp) hi];simp
  ·rw [if_neg (fun z=>e2 z.1),decide_eq_false (fun z=>e2 z.2.1.symm),Bool.or_false]
 ·rw [if_neg (fun z=>e z.1),decide_eq_false (fun z=>e z.1.symm),Bool.or_false]
theorem setR_RT {s:TS}{C:List M0}(h:ShT s C){j p i:Nat}(hj:j<C.length)(hp:p<(trip s.g).length)(hi:i<64)(q i' k:Nat) :
  RT (setR C j p (ior .u64 (rd (rd C (j:Int)).rests (p:Int)) (ishl .u64 1 (i:Int)))) q i' k↔RT C q i' k∨(k=j∧q=p∧i'=i):=by
 unfold RT;rw [setR_bit h hj hp hi,Bool.or_eq_true,decide_eq_true_eq]
theorem NT_nat (C:List M0)(x:Int):NT C x=NT C (x.toNat:Int):=by
 by_cases h0:0≤x
 ·rw [Int.toNat_of_nonneg h0]
 ·have e:∀ k:Nat,rd (rd C (k:Int)).names x=rd (rd C (k:Int)).names (x.toNat:Int):=fun k=>by simp only [rd,Int.toNat_natCast]
  funext a b;unfold NT;rw [e]
theorem setM_NT {s:TS}{C:List M0}(h:ShT s C){j p i:Nat}(hj:j<C.length)(hp:p<s.g.Names.length)(hi:i<64)(q:Int)(i' k:Nat) :
  NT (setM C j p (ior .u64 (rd (rd C (j:Int)).names (p:Int)) (ishl .u64 1 (i:Int)))) q i' k↔NT C q i' k∨(k=j∧q.toNat=p∧i'=i):=by
 rw [NT_nat,NT_nat C q];unfold NT;rw [setM_bit h hj hp hi,Bool.or_eq_true,decide_eq_true_eq]
def Stp (s:TS)(C:List M0)(p i j:Nat):Prop :=
 ((tg s.g p).2.2=(psq s.g p).length∧i=j)∨((tg s.g p).2.2<(psq s.g p).length∧∃ k,i≤k∧k≤j∧SymS (NT C) (wf s.w) (psy s.g p) i k∧RT C (p+1) k j)
theorem tHolds_spec (K:Nat)(hK:1000000≤K)(s:TS)(hx:TX s)(C:List M0)(h:ShT s C)(hl:C.length=s.w.length+1)(n:Nat)(td:List Int)(p i:Nat)(hp:p<(trip s.g).length)(hi:i≤s.w.length)(hn:n+64≤4611686018427387904) :
  ∃ b n',V7 K (E s C n td) p i=some (b,E s C n' td)∧(b=true↔Stp s C p i s.w.length)∧n≤n'∧n'≤n+(s.w.length-i+2):=by
 have q1:=hx.cx.wl;have q2:=hx.pn;have hr:=fj hp;have hm:=gl hp;have q4:=hx.cx.ql hr.1 hr.2;have epl:=hx.plr hp;have e1:IntKind.wrap .i64 ((n:Int)+1)=((n+1:Nat):Int):=by rw [wr (by omega) (by omega)];omega
 have e2:IntKind.wrap .i64 ((p:Int)+1)=((p+1:Nat):Int):=by rw [wr (by omega) (by omega)];omega
 unfold V7;rw [if_pos (by omega),if_pos (by show (p:Int)<(s.pl.length:Int);rw [hx.pll];omega)];simp only [epl,mkP,e1,e2]
 by_cases hlast:(tg s.g p).2.2=(psq s.g p).length
 ·rw [if_pos (by rw [decide_eq_true_eq];show (((tg s.g p).2.2:Nat):Int)=((psq s.g p).length:Int);omega)];refine ⟨_,n+1,rfl,?_,by omega,by omega⟩;rw [decide_eq_true_eq];constructor
  ·intro e;exact .inl ⟨hlast,by omega⟩
  ·rintro (⟨_,e⟩|⟨e,_⟩)
   ·omega
   ·omega
 ·have hlt:(tg s.g p).2.2<(psq s.g p).length:=by omega
  obtain ⟨hp1,_⟩:=Jh hp hlt;have stp:Stp s C p i s.w.length↔∃ k,i≤k∧k≤s.w.length∧SymS (NT C) (wf s.w) (psy s.g p) i k∧RT C (p+1) k s.w.length:=by
   constructor
   ·rintro (⟨e,_⟩|⟨_,hh⟩)
    ·exact (hlast e).elim
    ·exact hh
   ·intro hh;exact .inr ⟨hlt,hh⟩
  have r1:=h.r1 s.w.length (by omega);have r2:=h.r2 s.w.length (by omega) (p+1) hp1;have esy:(if (tg s.g p).2.2<(sq s.g (tg s.g p).1 (tg s.g p).2.1).length then rd (sq s.g (tg s.g p).1 (tg s.g p).2.1) ((tg s.g p).2.2:Int) else ⟨0,0,0⟩)=psy s.g p:=if_pos hlt;rw [if_neg (by rw [decide_eq_true_eq];show ¬ (((tg s.g p).2.2:Nat):Int)=((psq s.g p).length:Int);omega)];simp only [esy]
  by_cases hn0:(psy s.g p).Name<0
  ·rw [if_pos hn0];have hS:∀ k,SymS (NT C) (wf s.w) (psy s.g p) i k↔(k=i+1∧(psy s.g p).Lo≤rd s.w (i:Int)∧rd s.w (i:Int)≤(psy s.g p).Hi):=fun k=>by unfold SymS;rw [if_neg (by omega)]
   by_cases hlt2:(i:Int)<(s.w.length:Int)
   ·have hb:=hx.cx.wb i (by omega);rw [if_pos hlt2,if_pos (by omega),wr (a:=rd s.w (i:Int)) (by omega) (by omega)]
    by_cases h1:(psy s.g p).Lo≤rd s.w (i:Int)
    ·rw [if_pos h1]
     by_cases h2:rd s.w (i:Int)≤(psy s.g p).Hi
     ·have e3:IntKind.wrap .i64 ((i:Int)+1)=((i+1:Nat):Int):=by rw [wr (by omega) (by omega)];omega
      rw [if_pos h2,if_pos (by show (s.w.length:Int)<(C.length:Int);omega),if_pos (by omega),if_pos (by show ((p+1:Nat):Int)<((rd C (s.w.length:Int)).rests.length:Int);rw [r1];omega),e3,if_pos (by omega),Option.bind_some];refine ⟨_,n+1,rfl,?_,by omega,by omega⟩;rw [shr1 r2 (i+1),decide_eq_true_eq,iff1 (p:=True) (by decide),stp];constructor
      ·intro hbit;exact ⟨i+1,by omega,by omega,(hS _).2 ⟨rfl,h1,h2⟩,hbit⟩
      ·rintro ⟨k,k1,k2,k3,k4⟩;have:=((hS k).1 k3).1;subst this;exact k4
     ·rw [if_neg h2,Option.bind_some];refine ⟨_,n+1,rfl,?_,by omega,by omega⟩;rw [stp];exact ⟨fun e=>(by cases e),fun ⟨k,k1,k2,k3,k4⟩=>(h2 ((hS k).1 k3).2.2).elim⟩
    ·rw [if_neg h1,Option.bind_some];refine ⟨_,n+1,rfl,?_,by omega,by omega⟩;rw [stp];exact ⟨fun e=>(by cases e),fun ⟨k,k1,k2,k3,k4⟩=>(h1 ((hS k).1 k3).2.1).elim⟩
   ·rw [if_neg hlt2,Option.bind_some];refine ⟨_,n+1,rfl,?_,by omega,by omega⟩;rw [stp];exact ⟨fun e=>(by cases e),fun ⟨k,k1,k2,k3,k4⟩=>by have:=((hS k).1 k3).1;omega⟩
  ·rw [if_neg hn0,if_pos (by show (s.w.length:Int)<(C.length:Int);omega),if_pos (by omega),if_pos (by show ((p+1:Nat):Int)<((rd C (s.w.length:Int)).rests.length:Int);rw [r1];omega)];have hnm:(psy s.g p).Name<(s.g.Names.length:Int):=hx.cx.sy hr.1 hr.2 hlt;have hS:∀ k,SymS (NT C) (wf s.w) (psy s.g p) i k↔NT C (psy s.g p).Name i k:=fun k=>by unfold SymS;rw [if_pos (by omega)]
   have key:=rounds (σ:=Int×Int) (ρ:=(Int×Int) ⊕ (Bool×y0)) (L:=V7.l0 K (E s C n td) p i)
    (fun z=>∃ c k:Nat,z=((c:Int),(k:Int))∧i≤k∧k≤s.w.length+1∧c=n+1+(k-i)∧∀ q,i≤q→q<k→¬ (NT C (psy s.g p).Name i q∧RT C (p+1) q s.w.length))
    (fun z=>s.w.length+1-z.2.toNat)
    (fun ρ=>(∃ c:Nat,ρ = .inr (true,E s C c td)∧n≤c∧c≤n+(s.w.length-i+2)∧∃ q,i≤q∧q≤s.w.length∧NT C (psy s.g p).Name i q∧RT C (p+1) q s.w.length) ∨
     (∃ c k:Nat,ρ = .inl ((c:Int),(k:Int))∧n≤c∧c≤n+(s.w.length-i+2)∧∀ q,i≤q→q≤s.w.length→¬ (NT C (psy s.g p).Name i q∧RT C (p+1) q s.w.length))) ?_ K (((n+1:Nat):Int),(i:Int)) ⟨n+1,i,rfl,Nat.le_refl _,by omega,by omega,fun q _ _=>by omega⟩ (by simp;omega)
   ·obtain ⟨ρ,e3,hρ⟩:=key;erw [e3];rcases hρ with ⟨c,rfl,c1,c2,q,g1,g2,g3,g4⟩|⟨c,k,rfl,c1,c2,c3⟩
    ·exact ⟨true,c,rfl,⟨fun _=>stp.2 ⟨q,g1,g2,(hS q).2 g3,g4⟩,fun _=>rfl⟩,c1,c2⟩
    ·refine ⟨false,c,rfl,⟨fun e=>(by cases e),fun hh=>?_⟩,c1,c2⟩;obtain ⟨q,g1,g2,g3,g4⟩:=stp.1 hh;exact (c3 q g1 g2 ⟨(hS q).1 g3,g4⟩).elim
   ·rintro z mm ⟨c,k,rfl,k1,k2,k3,k4⟩;simp only [V7.l0]
    by_cases hk:k≤s.w.length
    ·have n1:=h.n1 k (by omega);obtain ⟨y,ey⟩:∃ y:Nat,(psy s.g p).Name=(y:Int):=⟨(psy s.g p).Name.toNat,by omega⟩
     have hy:y<s.g.Names.length:=by rw [ey] at hnm;omega
     have n2:=h.n2 k (by omega) y hy;have e3:IntKind.wrap .i64 ((c:Int)+1)=((c+1:Nat):Int):=by rw [wr (by omega) (by omega)];omega
     have e4:IntKind.wrap .i64 ((k:Int)+1)=((k+1:Nat):Int):=by rw [wr (by omega) (by omega)];omega
     simp only [epl,mkP,e2,e3,e4,esy];rw [if_pos (by omega),if_pos (by omega),if_pos (by show (k:Int)<(C.length:Int);omega),if_pos (by omega),if_pos (by rw [n1];omega),if_pos (by omega),ey,shr1 n2 i,shr1 r2 k]
     by_cases b1:bit (rd (rd C (k:Int)).names (y:Int)) i=true
     ·rw [if_pos b1,if_pos rfl]
      by_cases b2:bit (rd (rd C (s.w.length:Int)).rests ((p+1:Nat):Int)) k=true
      ·rw [if_pos b2,if_pos rfl];exact .inl ⟨_,rfl,.inl ⟨c+1,rfl,by omega,by omega,k,k1,hk,b1,b2⟩⟩
      ·rw [if_neg b2,if_neg (by decide)];refine .inr ⟨_,⟨c+1,k+1,rfl,by omega,by omega,by omega,fun q g1 g2=>?_⟩,by simp;omega,rfl⟩
       by_cases eq:q=k
       ·subst eq;exact fun hh=>b2 hh.2
       ·rw [← ey];exact k4 q g1 (by omega)
     ·rw [if_neg b1,if_neg (by decide)];refine .inr ⟨_,⟨c+1,k+1,rfl,by omega,by omega,by omega,fun q g1 g2=>?_⟩,by simp;omega,rfl⟩
      by_cases eq:q=k
      ·subst eq;exact fun hh=>b1 hh.1
      ·rw [← ey];exact k4 q g1 (by omega)
    ·rw [if_neg (by omega)];exact .inl ⟨_,rfl,.inr ⟨c,k,rfl,by omega,by omega,fun q g1 g2=>k4 q g1 (by omega)⟩⟩
abbrev lkL (s:TS)(i:Nat):Nat:=s.w.length-i+2
def Psi (s:TS)(C:List M0)(td:List Int)(i:Nat):Nat :=
 lkL s i*td.length+wsum (fun p=>if bit (rd (rd C (s.w.length:Int)).rests (p:Int)) i=true then 0 else lkL s i+8) (trip s.g).length +
  wsum (fun x=>if bit (rd (rd C (s.w.length:Int)).names (x:Int)) i=true then 0 else (rd s.at_ (x:Int)).length*(lkL s i+1)) s.g.Names.length
theorem Psi_td (s:TS)(C:List M0)(td:List Int)(i:Nat):2*td.length≤Psi s C td i:=by
 unfold Psi;have:2*td.length≤lkL s i*td.length:=Nat.mul_le_mul_right _ (by show 2≤s.w.length-i+2;omega);omega
theorem Psi_setR {s:TS}{C:List M0}(h:ShT s C)(hl:C.length=s.w.length+1){p i:Nat}(hp:p<(trip s.g).length)(hi:i<64)(hb:¬ RT C p i s.w.length)(td:List Int) :
  Psi s (setR C s.w.length p (ior .u64 (rd (rd C (s.w.length:Int)).rests (p:Int)) (ishl .u64 1 (i:Int)))) td i+(lkL s i+8)=Psi s C td i:=by
 unfold Psi;simp only [setR_nm];have hb':bit (rd (rd C (s.w.length:Int)).rests (p:Int)) i=false:=by unfold RT at hb;simpa using hb
 have e:=wsum_upd (f:=fun q=>if bit (rd (rd C (s.w.length:Int)).rests (q:Int)) i=true then 0 else lkL s i+8) (h:=fun q=>if bit (rd (rd (setR C s.w.length p (ior .u64 (rd (rd C (s.w.length:Int)).rests (p:Int)) (ishl .u64 1 (i:Int)))) (s.w.length:Int)).rests (q:Int)) i=true then 0 else lkL s i+8) (a:=p) (n:=(trip s.g).length) (fun k _ hne=>by
  rw [setR_bit h (by omega) hp hi,decide_eq_false (fun z=>hne z.2.1),Bool.or_false]) hp
 simp only [hb'] at e;rw [setR_bit h (by omega) hp hi] at e;simp only [hb',decide_eq_true (show s.w.length=s.w.length∧p=p∧i=i from ⟨rfl,rfl,rfl⟩),Bool.or_true,if_true] at e;simp at e;omega
theorem Psi_setM {s:TS}{C:List M0}(h:ShT s C)(hl:C.length=s.w.length+1){x i:Nat}(hx:x<s.g.Names.length)(hi:i<64)(hb:¬ bit (rd (rd C (s.w.length:Int)).names (x:Int)) i=true)(td td':List Int)(hd:td'.length≤td.length+(rd s.at_ (x:Int)).length) :
  Psi s (setM C s.w.length x (ior .u64 (rd (rd C (s.w.length:Int)).names (x:Int)) (ishl .u64 1 (i:Int)))) td' i+(rd s.at_ (x:Int)).length≤Psi s C td i:=by
 unfold Psi;simp only [setM_rs];have hb':bit (rd (rd C (s.w.length:Int)).names (x:Int)) i=false:=by simpa using hb
 have e:=wsum_upd (f:=fun q=>if bit (rd (rd C (s.w.length:Int)).names (q:Int)) i=true then 0 else (rd s.at_ (q:Int)).length*(lkL s i+1)) (h:=fun q=>if bit (rd (rd (setM C s.w.length x (ior .u64 (rd (rd C (s.w.length:Int)).names (x:Int)) (ishl .u64 1 (i:Int)))) (s.w.length:Int)).names (q:Int)) i=true then 0 else (rd s.at_ (q:Int)).length*(lkL s i+1)) (a:=x) (n:=s.g.Names.length) (fun k _ hne=>by
  rw [setM_bit h (by omega) hx hi,decide_eq_false (fun z=>hne z.2.1),Bool.or_false]) hx
 simp only [hb'] at e;rw [setM_bit h (by omega) hx hi] at e;simp only [hb',decide_eq_true (show s.w.length=s.w.length∧x=x∧i=i from ⟨rfl,rfl,rfl⟩),Bool.or_true,if_true] at e;simp at e;have m1:lkL s i*td'.length≤lkL s i*td.length+lkL s i*(rd s.at_ (x:Int)).length:=by
  rw [← Nat.mul_add];exact Nat.mul_le_mul_left _ hd
 have m2:(rd s.at_ (x:Int)).length*(lkL s i+1)=lkL s i*(rd s.at_ (x:Int)).length+(rd s.at_ (x:Int)).length:=by rw [Nat.mul_add,Nat.mul_comm,Nat.mul_one]
 omega
def Act (s:TS)(t:Int)(ng:Bool)(p:Nat):Prop:=p<(trip s.g).length∧plv s p=t∧png s.g p=ng
def bgn (s:TS)(r c:Nat):Nat:=(rd (rd s.bg (r:Int)) (c:Int)).toNat
theorem bgn_ok {s:TS}(hx:TX s){r c:Nat}(hr:r<s.g.Rules.length)(hc:c<nc s.g r):rd (rd s.bg (r:Int)) (c:Int)=(bgn s r c:Int)∧bgn s r c<(trip s.g).length∧tg s.g (bgn s r c)=(r,c,0):=by
 obtain ⟨b,h1,h2,h3⟩:=hx.b3 r hr c hc;have:bgn s r c=b:=by unfold bgn;rw [h1,Int.toNat_natCast]
 rw [this];exact ⟨h1,h2,h3⟩
theorem bgn_rest {s:TS}(hx:TX s){r c:Nat}(hr:r<s.g.Rules.length)(hc:c<nc s.g r):rest s.g (bgn s r c)=sq s.g r c:=by
 unfold rest psq;rw [(bgn_ok hx hr hc).2.2];rfl
def CB (s:TS)(C:List M0)(i j r:Nat):Prop:=∀ c,c<nc s.g r→((rd (rd s.g.Rules (r:Int)).Conj (c:Int)).Neg=true↔¬ RT C (bgn s r c) i j)
structure Wk (s:TS)(X0 C0:List M0)(i:Nat)(t:Int)(ng:Bool)(V D:Nat→Prop)(C:List M0)(td:List Int):Prop where
 shp:ShT s C
 len:C.length=s.w.length+1
 env:∀ x a b,¬ (a=i∧b=s.w.length)→(NT C x a b↔NT X0 x a b)
 low:∀ x:Int,0≤x→rd s.xs x≠t→∀ a b,NT C x a b↔NT C0 x a b
 nms:ng=true→NT C=NT C0
 oth:∀ p a b,¬ (a=i∧b=s.w.length∧Act s t ng p)→(RT C p a b↔RT C0 p a b)
 ri:RI s.g.Names.length s.g.Rules (rd s.xs) (HS (NT X0) (wf s.w) i s.w.length) t fun x=>NT C x i s.w.length
 snd:∀ p,Act s t ng p→RT C p i s.w.length→SeqS (NT C) (wf s.w) (rest s.g p) i s.w.length
 cpl:∀ p,Act s t ng p→V p→Stp s C p i s.w.length→RT C p i s.w.length∨(p:Int) ∈ td
 rul:ng=false→∀ r,D r→r<s.g.Rules.length→rd s.xs (rd s.g.Rules (r:Int)).Head=t→CB s C i s.w.length r→NT C (rd s.g.Rules (r:Int)).Head i s.w.length
 todo:∀ v ∈ td,∃ p:Nat,v=(p:Int)∧Act s t ng p
 ngx:ng=false→∀ p,Act s t true p→(RT C p i s.w.length↔SeqS (NT C) (wf s.w) (rest s.g p) i s.w.length)
 pst:∀ p,p<(trip s.g).length→∀ k,i<k→k≤s.w.length→(RT C p k s.w.length↔SeqS (NT C) (wf s.w) (rest s.g p) k s.w.length)
theorem Wk.mono {s:TS}{X0 C0:List M0}{i:Nat}{t:Int}{ng:Bool}{V D V' D':Nat→Prop}{C:List M0}{td:List Int}(h:Wk s X0 C0 i t ng V D C td)(hV:∀ p,Act s t ng p→V' p→V p)(hD:∀ r,D' r→D r):Wk s X0 C0 i t ng V' D' C td :=
 ⟨h.shp,h.len,h.env,h.low,h.nms,h.oth,h.ri,h.snd,fun p ha hv=>h.cpl p ha (hV p ha hv),fun e r hd=>h.rul e r (hD r hd),h.todo,h.ngx,h.pst⟩
theorem Wk.self {s:TS}{X0 C0:List M0}{i:Nat}{t:Int}{ng:Bool}{V D:Nat→Prop}{C:List M0}{td:List Int}(h:Wk s X0 C0 i t ng V D C td):upd (NT X0) i s.w.length (fun x=>NT C x i s.w.length)=NT C:=by
 funext x a b
 unfold upd
 split
 ·rename_i e;rw [e.1,e.2]
 ·rename_i e;exact propext (h.env x a b e).symm
theorem names_lv {s:TS}(hx:TX s){p:Nat}(hp:p<(trip s.g).length){y:Symbol}(hy:y ∈ psq s.g p)(h0:0≤y.Name):y.Name<(s.g.Names.length:Int)∧rd s.xs y.Name+(if png s.g p=true then 1 else 0)≤plv s p :=
 (hx.cx.lv _ (rd_mem' (fj hp).1)).2 _ (rd_mem' (fj hp).2) y hy h0
theorem tRule_l0 (K:Nat)(hK:1000000≤K)(s:TS)(hx:TX s)(C:List M0)(h:ShT s C)(hl:C.length=s.w.length+1)(n:Nat)(td:List Int)(r i:Nat)(hr:r<s.g.Rules.length)(hn:n+64≤4611686018427387904) :
  (∃ n',f5.l0 K (E s C n td) r i K ((n:Int),0)=some (.inr (E s C n' td))∧n≤n'∧n'≤n+nc s.g r∧¬ CB s C i s.w.length r) ∨
  (∃ k:Int,f5.l0 K (E s C n td) r i K ((n:Int),0)=some (.inl (((n+nc s.g r:Nat):Int),k))∧CB s C i s.w.length r):=by
 have q3:=hx.cx.cl hr;have key:=rounds (σ:=Int×Int) (ρ:=(Int×Int) ⊕ y0) (L:=f5.l0 K (E s C n td) r i)
  (fun z=>∃ c:Nat,z=(((n+c:Nat):Int),(c:Int))∧c≤nc s.g r∧∀ q,q<c→((rd (rd s.g.Rules (r:Int)).Conj (q:Int)).Neg=true↔¬ RT C (bgn s r q) i s.w.length))
  (fun z=>nc s.g r-z.2.toNat)
  (fun ρ=>(∃ n':Nat,ρ = .inr (E s C n' td)∧n≤n'∧n'≤n+nc s.g r∧¬ CB s C i s.w.length r)∨(∃ k:Int,ρ = .inl (((n+nc s.g r:Nat):Int),k)∧CB s C i s.w.length r)) ?_ K ((n:Int),0) ⟨0,rfl,Nat.zero_le _,fun q hq=>by omega⟩ (by simp;omega)
 ·obtain ⟨ρ,e1,hρ⟩:=key;rcases hρ with ⟨n',rfl,h1⟩|⟨k,rfl,h1⟩
  ·exact .inl ⟨n',e1,h1⟩
  ·exact .inr ⟨k,e1,h1⟩
 ·rintro z mm ⟨c,rfl,k1,k2⟩;simp only [f5.l0]
  by_cases hc:c<nc s.g r
  ·obtain ⟨b1,b2,b3⟩:=bgn_ok hx hr hc;have w1:=h.r1 s.w.length (by omega);have w2:=h.r2 s.w.length (by omega) _ b2;have e3:IntKind.wrap .i64 (((n+c:Nat):Int)+1)=((n+(c+1):Nat):Int):=by rw [wr (by omega) (by omega)];omega
   have e4:IntKind.wrap .i64 ((c:Int)+1)=((c+1:Nat):Int):=by rw [wr (by omega) (by omega)];omega
   simp only [b1,e3,e4];rw [if_pos (by show (c:Int)<((nc s.g r:Nat):Int);omega),if_pos (by show (r:Int)<(s.bg.length:Int);rw [hx.b1];omega),if_pos (by omega),if_pos (by rw [hx.b2 r hr];show (c:Int)<((nc s.g r:Nat):Int);omega),if_pos (by omega),if_pos (by rw [w1];omega),shr1 w2 i];have ed:decide ((if bit (rd (rd C (s.w.length:Int)).rests (bgn s r c:Int)) i=true then (1:Int) else 0)=1)=bit (rd (rd C (s.w.length:Int)).rests (bgn s r c:Int)) i:=by
    cases bit (rd (rd C (s.w.length:Int)).rests (bgn s r c:Int)) i <;> simp
   rw [ed]
   by_cases he:bit (rd (rd C (s.w.length:Int)).rests (bgn s r c:Int)) i=(rd (rd s.g.Rules (r:Int)).Conj (c:Int)).Neg
   ·rw [if_pos he];refine .inl ⟨_,rfl,.inl ⟨n+(c+1),rfl,by omega,by omega,fun hh=>?_⟩⟩;have:=hh c hc;unfold RT at this;rw [he] at this;cases hn:(rd (rd s.g.Rules (r:Int)).Conj (c:Int)).Neg <;> rw [hn] at this <;> simp at this
   ·rw [if_neg he];refine .inr ⟨_,⟨c+1,rfl,hc,fun q hq=>?_⟩,by simp;omega,rfl⟩
    by_cases ec:q=c
    ·subst ec;unfold RT;cases hn:(rd (rd s.g.Rules (r:Int)).Conj (q:Int)).Neg <;> rw [hn] at he <;> simp at he ⊢ <;> exact he
    ·exact k2 q (by omega)
  ·rw [if_neg (by show ¬ (c:Int)<((nc s.g r:Nat):Int);omega)];have:c=nc s.g r:=by omega
   subst this;exact .inl ⟨_,rfl,.inr ⟨_,rfl,k2⟩⟩
def keepP (s:TS)(t:Int)(v:Int):Bool:=decide ((rd s.pl v).level=t) && !(rd s.pl v).neg
theorem tRule_l1 (K:Nat)(hK:1000000≤K)(s:TS)(hx:TX s)(C:List M0)(n0 n:Nat)(td0 td:List Int)(r hd:Nat)(hr:r<s.g.Rules.length)(ehd:(rd s.g.Rules (r:Int)).Head=(hd:Int))(hhd:hd<s.g.Names.length)(t:Int)(hn:n+4000≤4611686018427387904)(ht:td.length≤500000)(hal:(rd s.at_ (hd:Int)).length≤3072) :
  ∃ k:Int,f5.l1 K (E s C n0 td0) r t K (td,(n:Int),0)=some (td++(rd s.at_ (hd:Int)).filter (keepP s t),((n+(rd s.at_ (hd:Int)).length:Nat):Int),k):=by
 have key:=rounds (σ:=List Int×Int×Int) (ρ:=List Int×Int×Int) (L:=f5.l1 K (E s C n0 td0) r t)
  (fun z=>∃ c:Nat,z=(td++((rd s.at_ (hd:Int)).take c).filter (keepP s t),((n+c:Nat):Int),(c:Int))∧c≤(rd s.at_ (hd:Int)).length)
  (fun z=>(rd s.at_ (hd:Int)).length-z.2.2.toNat)
  (fun ρ=>∃ k:Int,ρ=(td++(rd s.at_ (hd:Int)).filter (keepP s t),((n+(rd s.at_ (hd:Int)).length:Nat):Int),k)) ?_ K (td,(n:Int),0) ⟨0,by simp,Nat.zero_le _⟩ (by simp;omega)
 ·obtain ⟨ρ,e1,k,rfl⟩:=key;exact ⟨k,e1⟩
 ·rintro z mm ⟨c,rfl,k1⟩;simp only [f5.l1];simp only [ehd]
  by_cases hc:c<(rd s.at_ (hd:Int)).length
  ·have hv:=(hx.at_.mem hd hhd (rd (rd s.at_ (hd:Int)) (c:Int))).1 (rd_mem' hc);obtain ⟨p,p1,p2,_⟩:=hv;have e3:IntKind.wrap .i64 (((n+c:Nat):Int)+1)=((n+(c+1):Nat):Int):=by rw [wr (by omega) (by omega)];omega
   have e4:IntKind.wrap .i64 ((c:Int)+1)=((c+1:Nat):Int):=by rw [wr (by omega) (by omega)];omega
   have lf:(((rd s.at_ (hd:Int)).take c).filter (keepP s t)).length≤3072:=Nat.le_trans (List.length_filter_le _ _) (by rw [List.length_take];omega);have hf:((rd s.at_ (hd:Int)).take (c+1)).filter (keepP s t)=((rd s.at_ (hd:Int)).take c).filter (keepP s t)++if keepP s t (rd (rd s.at_ (hd:Int)) (c:Int))=true then [rd (rd s.at_ (hd:Int)) (c:Int)] else []:=by
    rw [take_succ_rd hc,List.filter_append]
    congr 1
    cases hk:keepP s t (rd (rd s.at_ (hd:Int)) (c:Int)) <;> simp [List.filter,hk]
   simp only [e3,e4];rw [if_pos (by show (c:Int)<((rd s.at_ (hd:Int)).length:Int);omega),if_pos (by omega),if_pos (by show 0≤rd (rd s.at_ (hd:Int)) (c:Int);omega),if_pos (by show rd (rd s.at_ (hd:Int)) (c:Int)<(s.pl.length:Int);rw [hx.pll];omega)]
   by_cases h1:(rd s.pl (rd (rd s.at_ (hd:Int)) (c:Int))).level=t
   ·rw [if_pos h1]
    by_cases h2:(!(rd s.pl (rd (rd s.at_ (hd:Int)) (c:Int))).neg)=true
    ·have hk:keepP s t (rd (rd s.at_ (hd:Int)) (c:Int))=true:=by unfold keepP;rw [decide_eq_true h1,h2];rfl
     rw [if_pos h2,if_pos (by show ((td++_).length+1)*8≤_;rw [List.length_append];omega)];refine .inr ⟨_,⟨c+1,rfl,hc⟩,by simp;omega,?_⟩;rw [hf,if_pos hk,← List.append_assoc]
    ·have hk:¬ keepP s t (rd (rd s.at_ (hd:Int)) (c:Int))=true:=by unfold keepP;rw [decide_eq_true h1,Bool.true_and];exact h2
     rw [if_neg h2];refine .inr ⟨_,⟨c+1,rfl,hc⟩,by simp;omega,?_⟩;rw [hf,if_neg hk,List.append_nil]
   ·have hk:¬ keepP s t (rd (rd s.at_ (hd:Int)) (c:Int))=true:=by unfold keepP;rw [decide_eq_false h1];simp
    rw [if_neg h1];refine .inr ⟨_,⟨c+1,rfl,hc⟩,by simp;omega,?_⟩;rw [hf,if_neg hk,List.append_nil]
  ·rw [if_neg (by show ¬ (c:Int)<((rd s.at_ (hd:Int)).length:Int);omega)];have:c=(rd s.at_ (hd:Int)).length:=by omega
   subst this;exact .inl ⟨_,rfl,_,by rw [List.take_length]⟩
theorem at_le {s:TS}(hx:TX s){x:Nat}(h:x<s.g.Names.length):(rd s.at_ (x:Int)).length≤3072:=by
 have h1:=hx.at_.sum;have h2:=hx.pn;have h3:∀ n,x<n→(rd s.at_ (x:Int)).length≤wsum (fun x=>(rd s.at_ (x:Int)).length) n:=by
  intro n
  induction n with
  | zero=>intro h;omega
  | succ n ih =>
   intro hh;simp only [wsum]
   by_cases c:x=n
   ·subst c;omega
   ·have:=ih (by omega);omega
 have:=h3 _ h;omega
theorem tRule_spec (K:Nat)(hK:1000000≤K)(s:TS)(hx:TX s)(X0 C0:List M0)(i:Nat)(hi:i≤s.w.length)(t:Int)(V D:Nat→Prop)(C:List M0)(td:List Int)(r:Nat)(hr:r<s.g.Rules.length)
  (h:Wk s X0 C0 i t false V (fun q=>D q∧q≠r) C td) (n:Nat) (hn:n+Psi s C td i+5000≤4611686018427387904) (hP:Psi s C td i≤500000) :
  ∃ C' n' td',f5 K (E s C n td) r t i=some (E s C' n' td')∧Wk s X0 C0 i t false V (fun q=>D q∨q=r) C' td'∧Psi s C' td' i≤Psi s C td i∧n'+Psi s C' td' i≤n+Psi s C td i+(if rd s.xs (rd s.g.Rules (r:Int)).Head=t then nc s.g r else 0)∧n≤n':=by
 have q1:=hx.cx.wl;have q2:=hx.cx.rl;have q3:=hx.cx.cl hr;have hh:=hx.cx.hd hr;have hxl:=hx.cx.xl;have hn1:=h.shp.n1 s.w.length (by rw [h.len];omega);obtain ⟨hd,ehd⟩:∃ hd:Nat,(rd s.g.Rules (r:Int)).Head=(hd:Int):=⟨(rd s.g.Rules (r:Int)).Head.toNat,by omega⟩
 have hdl:hd<s.g.Names.length:=by omega
 have hn2:=h.shp.n2 s.w.length (by rw [h.len];omega) hd hdl;have hal:=at_le hx hdl;have htd:=Psi_td s C td i;unfold f5;rw [if_pos (by omega),if_pos (by show (r:Int)<(s.g.Rules.length:Int);omega),if_pos (by show (s.w.length:Int)<(C.length:Int);rw [h.len];omega),if_pos hh.1,if_pos (by show _<(s.xs.length:Int);rw [hxl];exact hh.2)];simp only [ehd] at hh ⊢
 by_cases ht:rd s.xs (hd:Int)=t
 ·rw [if_neg (fun z=>z ht),if_pos (by rw [hn1];omega),if_pos (by omega),shr1 hn2 i]
  by_cases hb:bit (rd (rd C (s.w.length:Int)).names (hd:Int)) i=true
  ·rw [if_pos hb,if_pos rfl];refine ⟨C,n,td,rfl,⟨h.shp,h.len,h.env,h.low,h.nms,h.oth,h.ri,h.snd,h.cpl,fun e q hq hq2 hq3 hq4=>?_,h.todo,h.ngx,h.pst⟩,Nat.le_refl _,by omega,Nat.le_refl _⟩
   by_cases eq:q=r
   ·subst eq;rw [ehd];exact hb
   ·exact h.rul e q ⟨hq.elim id fun z=>(eq z).elim,eq⟩ hq2 hq3 hq4
  ·rw [if_neg hb,if_neg (by decide)];rcases tRule_l0 K hK s hx C h.shp h.len n td r i hr (by omega) with ⟨n',e1,g1,g2,g3⟩|⟨k,e1,g1⟩
   ·erw [e1];refine ⟨C,n',td,rfl,⟨h.shp,h.len,h.env,h.low,h.nms,h.oth,h.ri,h.snd,h.cpl,fun e q hq hq2 hq3 hq4=>?_,h.todo,h.ngx,h.pst⟩,Nat.le_refl _,by rw [if_pos ht];omega,g1⟩
    by_cases eq:q=r
    ·subst eq;exact (g3 hq4).elim
    ·exact h.rul e q ⟨hq.elim id fun z=>(eq z).elim,eq⟩ hq2 hq3 hq4
   ·erw [e1];simp only [brk,Option.bind_some];obtain ⟨k2,e2⟩:=tRule_l1 K hK s hx C n (n+nc s.g r) td td r hd hr ehd hdl t (by omega) (by omega) hal;rw [if_pos (by show (hd:Int)<(s.at_.length:Int);rw [hx.at_.len];omega)];erw [e2];rw [Option.bind_some];simp only [Int.toNat_natCast];have hi64:i<64:=by omega
    have hset:=setM_NT h.shp (j:=s.w.length) (p:=hd) (i:=i) (by rw [h.len];omega) hdl hi64;have hP2:=Psi_setM h.shp h.len hdl hi64 hb td (td++(rd s.at_ (hd:Int)).filter (keepP s t)) (by rw [List.length_append];have:=List.length_filter_le (keepP s t) (rd s.at_ (hd:Int));omega);refine ⟨setM C s.w.length hd (ior .u64 (rd (rd C (s.w.length:Int)).names (hd:Int)) (ishl .u64 1 (i:Int))),n+nc s.g r+(rd s.at_ (hd:Int)).length,td++(rd s.at_ (hd:Int)).filter (keepP s t),rfl,?_,by omega,by rw [if_pos ht];omega,by omega⟩;have up:∀ (y:Int) a b,NT C y a b→NT (setM C s.w.length hd (ior .u64 (rd (rd C (s.w.length:Int)).names (hd:Int)) (ishl .u64 1 (i:Int)))) y a b:=fun y a b hy=>(hset y a b).2 (.inl hy)
    have lowN:∀ y:Int,0≤y→rd s.xs y≠t→∀ a b,NT (setM C s.w.length hd (ior .u64 (rd (rd C (s.w.length:Int)).names (hd:Int)) (ishl .u64 1 (i:Int)))) y a b↔NT C y a b:=fun y h0 hne a b=>by
     rw [hset];exact ⟨fun z=>z.elim id fun z=>(hne (by have:=z.2.1;rw [show y=(hd:Int) by omega];exact ht)).elim,.inl⟩
    refine ⟨setM_shp h.shp (by rw [h.len];omega) (or_ok hn2 hi64),(setM_len ..).trans h.len,fun x a b hne=>?_,fun x h0 hne a b=>(lowN x h0 hne a b).trans (h.low x h0 hne a b),fun e=>(by cases e),fun p a b hne=>(setM_RT ..).trans (h.oth p a b hne),?_,fun p hp hq=>?_,fun p hp hV hS=>?_,fun e q hq hq2 hq3 hq4=>?_,fun v hv=>?_,fun e p hp=>?_,fun p hp k k1 k2=>?_⟩
    ·rw [hset,← h.env x a b hne];exact ⟨fun z=>z.elim id fun z=>(hne ⟨z.2.2,z.1⟩).elim,.inl⟩
    ·have hH:HS (NT X0) (wf s.w) i s.w.length (fun x=>NT C x i s.w.length) (rd s.g.Rules (r:Int)):=by
      unfold HS;rw [h.self];intro c hc;obtain ⟨q,hq,rfl⟩:=mem_rd hc;obtain ⟨b1,b2,b3⟩:=bgn_ok hx hr hq;have br:=bgn_rest hx hr hq;have hact:∀ b,(rd (rd s.g.Rules (r:Int)).Conj (q:Int)).Neg=b→Act s t b (bgn s r q):=fun b hb=>⟨b2,by unfold plv;rw [b3,ehd];exact ht,by unfold png;rw [b3];exact hb⟩
      rw [g1 q hq]
      cases hneg:(rd (rd s.g.Rules (r:Int)).Conj (q:Int)).Neg with
      | true =>
       have:=h.ngx rfl _ (hact true hneg);rw [br] at this;exact not_congr this
      | false =>
       have hc0:=g1 q hq;rw [hneg] at hc0;have hrt:RT C (bgn s r q) i s.w.length:=Classical.byContradiction fun z=>by cases hc0.2 z
       have:=h.snd _ (hact false hneg) hrt;rw [br] at this;exact ⟨fun z=>(z hrt).elim,fun z=>(z this).elim⟩
     have hput:=RI.put (HS_lvl hx.cx.lv (NT X0) (wf s.w) i s.w.length) h.ri (rd_mem' hr) (by rw [ehd];exact ht) hH;refine RI_on hput (fun y h0 h1=>?_) (HS_lvl hx.cx.lv (NT X0) (wf s.w) i s.w.length);rw [hset,ehd];exact ⟨fun z=>z.imp id fun z=>by have:=z.2.1;omega,fun z=>z.imp id fun z=>⟨rfl,by omega,rfl⟩⟩
    ·rw [setM_RT] at hq;exact SeqS_mono (fun y _ _ a b _ _ _=>up y.Name a b) (h.snd p hp hq)
    ·rw [setM_RT];have hlt:=gl hp.1
     by_cases hold:Stp s C p i s.w.length
     ·exact (h.cpl p hp hV hold).imp id fun z=>List.mem_append_left _ z
     ·refine .inr (List.mem_append_right _ (List.mem_filter.2 ⟨?_,?_⟩))
      ·rcases hS with ⟨e,e2⟩|⟨e,k',k1,k2,k3,k4⟩
       ·exact (hold (.inl ⟨e,e2⟩)).elim
       ·rw [setM_RT] at k4;refine (hx.at_.mem hd hdl _).2 ⟨p,hp.1,rfl,e,?_⟩;refine Classical.byContradiction fun hne=>hold (.inr ⟨e,k',k1,k2,?_,k4⟩)
        unfold SymS at k3 ⊢
        split at k3
        ·rename_i h0
         rw [if_pos h0];rcases (hset _ _ _).1 k3 with z|z
         ·exact z
         ·exact (hne (by have:=z.2.1;show (psy s.g p).Name=(hd:Int);omega)).elim
        ·rename_i h0
         rw [if_neg h0];exact k3
      ·unfold keepP;rw [hx.plr hp.1];show (decide (plv s p=t) && !png s.g p)=true;rw [hp.2.1,hp.2.2,decide_eq_true rfl];rfl
    ·by_cases eq:q=r
     ·subst eq;rw [ehd];exact (hset _ _ _).2 (.inr ⟨rfl,Int.toNat_natCast _,rfl⟩)
     ·refine up _ _ _ (h.rul e q ⟨hq.elim id fun z=>(eq z).elim,eq⟩ hq2 hq3 fun c hc=>?_);rw [hq4 c hc,setM_RT]
    ·rcases List.mem_append.1 hv with hv|hv
     ·exact h.todo v hv
     ·obtain ⟨v1,v2⟩:=List.mem_filter.1 hv;obtain ⟨p,p1,p2,p3⟩:=(hx.at_.mem hd hdl v).1 v1;unfold keepP at v2;rw [p2,hx.plr p1,Bool.and_eq_true,decide_eq_true_eq,Bool.not_eq_true'] at v2;exact ⟨p,p2,p1,v2.1,v2.2⟩
    ·rw [setM_RT,h.ngx rfl p hp];refine SeqS_env fun y hy h0 a b _ _ _=>(lowN y.Name h0 ?_ a b).symm
     have:=(names_lv hx hp.1 (rest_sub hy) h0).2;rw [hp.2.1,hp.2.2] at this;simp at this;omega
    ·rw [setM_RT,h.pst p hp k k1 k2];refine SeqS_env fun y hy h0 a b h1 _ _=>?_
     rw [hset];exact ⟨.inl,fun z=>z.elim id fun z=>by omega⟩
 ·rw [if_pos ht];refine ⟨C,n,td,rfl,⟨h.shp,h.len,h.env,h.low,h.nms,h.oth,h.ri,h.snd,h.cpl,fun e q hq hq2 hq3 hq4=>?_,h.todo,h.ngx,h.pst⟩,Nat.le_refl _,by omega,Nat.le_refl _⟩
  by_cases eq:q=r
  ·subst eq;rw [ehd] at hq3;exact (ht hq3).elim
  ·exact h.rul e q ⟨hq.elim id fun z=>(eq z).elim,eq⟩ hq2 hq3 hq4
theorem Act_nx {s:TS}{t:Int}{ng:Bool}{p:Nat}(h:Act s t ng p)(hm:(tg s.g p).2.2<(psq s.g p).length):Act s t ng (p+1):=by
 obtain ⟨h1,h2⟩:=Jh h.1 hm;exact ⟨h1,by unfold plv;rw [h2];exact h.2.1,by unfold png;rw [h2];exact h.2.2⟩
theorem Act_pv {s:TS}{t:Int}{ng:Bool}{p:Nat}(h:Act s t ng p)(hm:0<(tg s.g p).2.2):Act s t ng (p-1):=by
 obtain ⟨h1,h2⟩:=Jk h.1 hm;exact ⟨by have:=h.1;omega,by unfold plv;rw [h2];exact h.2.1,by unfold png;rw [h2];exact h.2.2⟩
theorem Wk.stp {s:TS}{X0 C0:List M0}{i:Nat}{t:Int}{ng:Bool}{V D:Nat→Prop}{C:List M0}{td:List Int}(h:Wk s X0 C0 i t ng V D C td){p:Nat}(hp:Act s t ng p)(hs:Stp s C p i s.w.length):SeqS (NT C) (wf s.w) (rest s.g p) i s.w.length:=by
 rcases hs with ⟨e,e2⟩|⟨e,k,k1,k2,k3,k4⟩
 ·rw [rest_last e];exact e2
 ·rw [rest_next hp.1 e];refine ⟨k,k1,k2,k3,?_⟩
  by_cases ek:k=i
  ·subst ek;exact h.snd _ (Act_nx hp e) k4
  ·exact (h.pst _ (Jh hp.1 e).1 k (by omega) k2).1 k4
theorem Wk.exact {s:TS}{X0 C0:List M0}{i:Nat}{t:Int}{ng:Bool}{D:Nat→Prop}{C:List M0}(h:Wk s X0 C0 i t ng (fun _=>True) D C []){p:Nat}(hp:Act s t ng p):RT C p i s.w.length↔SeqS (NT C) (wf s.w) (rest s.g p) i s.w.length:=by
 refine ⟨h.snd p hp,?_⟩;have key:∀ (d p:Nat),Act s t ng p→(psq s.g p).length-(tg s.g p).2.2=d→SeqS (NT C) (wf s.w) (rest s.g p) i s.w.length→RT C p i s.w.length:=by
  intro d
  induction d with
  | zero =>
   intro p hp hd hs;have:=gl hp.1;have e:(tg s.g p).2.2=(psq s.g p).length:=by omega
   rw [rest_last e] at hs;exact (h.cpl p hp trivial (.inl ⟨e,hs⟩)).elim id fun z=>by cases z
  | succ d ih =>
   intro p hp hd hs;have e:(tg s.g p).2.2<(psq s.g p).length:=by omega
   rw [rest_next hp.1 e] at hs;obtain ⟨k,k1,k2,k3,k4⟩:=hs;refine (h.cpl p hp trivial (.inr ⟨e,k,k1,k2,k3,?_⟩)).elim id fun z=>by cases z
   obtain ⟨g1,g2⟩:=Jh hp.1 e
   by_cases ek:k=i
   ·subst ek;refine ih (p+1) (Act_nx hp e) ?_ k4;have:psq s.g (p+1)=psq s.g p:=by unfold psq;rw [g2]
    rw [this,g2];simp only;omega
   ·exact (h.pst _ g1 k (by omega) k2).2 k4
 exact key _ p hp rfl
theorem tLook_spec (K:Nat)(hK:1000000≤K)(s:TS)(hx:TX s)(X0 C0:List M0)(i:Nat)(hi:i≤s.w.length)(t:Int)(ng:Bool)(V D:Nat→Prop)(C:List M0)(td:List Int)(p:Nat)(hp:Act s t ng p)
  (h:Wk s X0 C0 i t ng (fun q=>V q∧q≠p) D C td) (n:Nat) (hn:n+Psi s C td i+6000≤4611686018427387904) (hP:Psi s C td i≤500000) :
  ∃ C' n' td',gb K (E s C n td) p i=some (E s C' n' td')∧Wk s X0 C0 i t ng (fun q=>V q∨q=p) D C' td'∧Psi s C' td' i≤Psi s C td i∧n'+Psi s C' td' i≤n+Psi s C td i+lkL s i∧n≤n':=by
 have q1:=hx.cx.wl;have q2:=hx.pn;have hr1:=h.shp.r1 s.w.length (by rw [h.len];omega);have hr2:=h.shp.r2 s.w.length (by rw [h.len];omega) p hp.1;have hp1:=hp.1;have htd:=Psi_td s C td i;have hi64:i<64:=by omega
 have hlk:lkL s i≤34:=by show s.w.length-i+2≤34;omega
 unfold gb;rw [if_pos (by show (s.w.length:Int)<(C.length:Int);rw [h.len];omega),if_pos (by omega),if_pos (by show (p:Int)<((rd C (s.w.length:Int)).rests.length:Int);rw [hr1];omega),if_pos (by omega),shr1 hr2 i]
 by_cases hb:bit (rd (rd C (s.w.length:Int)).rests (p:Int)) i=true
 ·rw [if_pos hb,if_pos rfl];refine ⟨C,n,td,rfl,⟨h.shp,h.len,h.env,h.low,h.nms,h.oth,h.ri,h.snd,fun q hq hv hs=>?_,h.rul,h.todo,h.ngx,h.pst⟩,Nat.le_refl _,by omega,Nat.le_refl _⟩
  by_cases e:q=p
  ·subst e;exact .inl hb
  ·exact h.cpl q hq ⟨hv.elim id fun z=>(e z).elim,e⟩ hs
 ·rw [if_neg hb,if_neg (by decide)];obtain ⟨b,n',e1,e2,e3,e4⟩:=tHolds_spec K hK s hx C h.shp h.len n td p i hp1 hi (by omega);rw [e1,Option.bind_some]
  cases b with
  | false =>
   rw [if_pos (by simp)];refine ⟨C,n',td,rfl,⟨h.shp,h.len,h.env,h.low,h.nms,h.oth,h.ri,h.snd,fun q hq hv hs=>?_,h.rul,h.todo,h.ngx,h.pst⟩,Nat.le_refl _,by show n'+_≤n+_+(s.w.length-i+2);omega,e3⟩
   by_cases e:q=p
   ·subst e;cases e2.2 hs
   ·exact h.cpl q hq ⟨hv.elim id fun z=>(e z).elim,e⟩ hs
  | true =>
   have hst:=e2.1 rfl;have hset:=setR_RT h.shp (j:=s.w.length) (p:=p) (i:=i) (by rw [h.len];omega) hp1 hi64;have hNT:=setR_NT C s.w.length p (ior .u64 (rd (rd C (s.w.length:Int)).rests (p:Int)) (ishl .u64 1 (i:Int)));have hPs:=Psi_setR h.shp h.len hp1 hi64 hb;have hshp:=setR_shp h.shp (j:=s.w.length) (p:=p) (by rw [h.len];omega) (or_ok hr2 hi64);have hlen:=(setR_len C s.w.length p (ior .u64 (rd (rd C (s.w.length:Int)).rests (p:Int)) (ishl .u64 1 (i:Int)))).trans h.len;have core:∀ (td':List Int) (D':Nat→Prop),(∀ v ∈ td,v ∈ td')→(0<(tg s.g p).2.2→((p-1:Nat):Int) ∈ td')→(∀ v ∈ td',∃ q:Nat,v=(q:Int)∧Act s t ng q) →
     (ng=false→∀ r,D' r→r<s.g.Rules.length→D r∧∀ c,c<nc s.g r→bgn s r c≠p) →
     Wk s X0 C0 i t ng (fun q=>V q∨q=p) D' (setR C s.w.length p (ior .u64 (rd (rd C (s.w.length:Int)).rests (p:Int)) (ishl .u64 1 (i:Int)))) td':=fun td' D' t1 t2 t3 t4=>by
    refine ⟨hshp,hlen,by rw [hNT];exact h.env,by rw [hNT];exact h.low,by rw [hNT];exact h.nms,fun q a b hne=>?_,by rw [hNT];exact h.ri,fun q hq hh=>?_,fun q hq hv hs=>?_,fun e r hd hr ht hcb=>?_,t3,fun e q hq=>?_,fun q hq k k1 k2=>?_⟩
    ·rw [hset,← h.oth q a b hne];exact ⟨fun z=>z.elim id fun z=>(hne ⟨z.2.2,z.1,by rw [z.2.1];exact hp⟩).elim,.inl⟩
    ·rw [hNT];rcases (hset _ _ _).1 hh with z|z
     ·exact h.snd q hq z
     ·rw [z.2.1];exact h.stp hp hst
    ·rw [hset]
     by_cases e:q=p
     ·exact .inl (.inr ⟨rfl,e,rfl⟩)
     ·by_cases hold:Stp s C q i s.w.length
      ·exact (h.cpl q hq ⟨hv.elim id fun z=>(e z).elim,e⟩ hold).imp .inl (t1 _)
      ·rcases hs with ⟨g1,g2⟩|⟨g1,k,k1,k2,k3,k4⟩
       ·exact (hold (.inl ⟨g1,g2⟩)).elim
       ·rw [hNT] at k3;rcases (hset _ _ _).1 k4 with z|z
        ·exact (hold (.inr ⟨g1,k,k1,k2,k3,z⟩)).elim
        ·have hq2:=(Jh hq.1 g1).2;rw [z.2.1] at hq2;refine .inr ?_;rw [show q=p-1 by omega];exact t2 (by rw [hq2];simp)
    ·obtain ⟨d1,d2⟩:=t4 e r hd hr;rw [hNT];refine h.rul e r d1 hr ht fun c hc=>?_
     rw [hcb c hc,hset];exact not_congr ⟨fun z=>z.elim id fun z=>(d2 c hc z.2.1).elim,.inl⟩
    ·rw [hNT,hset,← h.ngx e q hq];exact ⟨fun z=>z.elim id fun z=>by
      have h1:=hq.2.2;have h2:=hp.2.2;rw [z.2.1,h2,e] at h1;exact absurd h1 (by decide),.inl⟩
    ·rw [hNT,hset,← h.pst q hq k k1 k2];exact ⟨fun z=>z.elim id fun z=>by omega,.inl⟩
   rw [if_neg (by simp)];simp only;rw [if_pos (by rw [h.len];omega),if_pos (by rw [hr1];omega),if_pos (by rw [hx.pll];omega)];simp only [hx.plr hp1,mkP]
   by_cases hf:(tg s.g p).2.2=0
   ·rw [if_neg (by simp [hf])];have nofirst:¬ 0<(tg s.g p).2.2:=by omega
    cases ng with
    | false =>
     have hneg:(rd (rd s.g.Rules ((tg s.g p).1:Int)).Conj ((tg s.g p).2.1:Int)).Neg=false:=hp.2.2;rw [if_pos (by rw [hneg];rfl)];have hw:=core td (fun r=>D r∧r≠(tg s.g p).1) (fun v hv=>hv) (fun z=>(nofirst z).elim) h.todo fun _ r hd hr=>⟨hd.1,fun c hc hh=>hd.2 (by
      have:=(bgn_ok hx hr hc).2.2;rw [hh] at this;rw [this])⟩
     have hP1:=hPs td;obtain ⟨C2,n2,td2,g1,g2,g3,g4,g5⟩:=tRule_spec K hK s hx X0 C0 i hi t (fun q=>V q∨q=p) D _ td (tg s.g p).1 (fj hp1).1 hw n' (by omega) (by omega);have hl8:=hx.cx.cl (fj hp1).1;have elv:rd s.xs (rd s.g.Rules ((tg s.g p).1:Int)).Head=t:=hp.2.1;rw [elv];erw [g1];rw [if_pos elv] at g4;exact ⟨C2,n2,td2,rfl,g2.mono (fun _ _ z=>z) (fun _ z=>.inl z),by omega,by show n2+_≤n+_+(s.w.length-i+2);omega,by omega⟩
    | true =>
     have hneg:(rd (rd s.g.Rules ((tg s.g p).1:Int)).Conj ((tg s.g p).2.1:Int)).Neg=true:=hp.2.2;rw [if_neg (by rw [hneg];decide)];have hP1:=hPs td;exact ⟨setR C s.w.length p (ior .u64 (rd (rd C (s.w.length:Int)).rests (p:Int)) (ishl .u64 1 (i:Int))),n',td,rfl,core td D (fun v hv=>hv) (fun z=>(nofirst z).elim) h.todo (fun z=>absurd z (by decide)),by omega,by show n'+_≤n+_+(s.w.length-i+2);omega,e3⟩
   ·have e5:IntKind.wrap .i64 ((p:Int)-1)=((p-1:Nat):Int):=by
     have:=(Jk hp1 (by omega)).1;rw [wr (by omega) (by omega)];omega
    rw [if_pos (by simp [hf]),e5,if_pos (by show (td.length+1)*8≤_;omega)];have hP1:=hPs (td++[((p-1:Nat):Int)]);have hP2:Psi s C (td++[((p-1:Nat):Int)]) i=Psi s C td i+lkL s i:=by
     unfold Psi;rw [List.length_append,List.length_singleton,Nat.mul_add,Nat.mul_one];omega
    refine ⟨setR C s.w.length p (ior .u64 (rd (rd C (s.w.length:Int)).rests (p:Int)) (ishl .u64 1 (i:Int))),n',td++[((p-1:Nat):Int)],rfl,core _ D (fun v hv=>List.mem_append_left _ hv) (fun _=>List.mem_append_right _ (List.mem_singleton.2 rfl)) (fun v hv=>?_) fun e r hd hr=>⟨hd,fun c hc hh=>?_⟩,by omega,by show n'+_≤n+_+(s.w.length-i+2);omega,e3⟩
    ·rcases List.mem_append.1 hv with hv|hv
     ·exact h.todo v hv
     ·rw [List.mem_singleton] at hv;exact ⟨p-1,hv,Act_pv hp (by omega)⟩
    ·have:=(bgn_ok hx hr hc).2.2;rw [hh] at this;rw [this] at hf;exact hf rfl
theorem tAgain_spec (K:Nat)(hK:1000000≤K)(s:TS)(hx:TX s)(X0 C0:List M0)(i:Nat)(hi:i≤s.w.length)(t:Int)(ng:Bool)(D:Nat→Prop)(C:List M0)(td:List Int)
  (h:Wk s X0 C0 i t ng (fun _=>True) D C td) (n:Nat) (hn:n+Psi s C td i+6000≤4611686018427387904) (hP:Psi s C td i≤500000) :
  ∃ C' n',W7 K (E s C n td) i=some (E s C' n' [])∧Wk s X0 C0 i t ng (fun _=>True) D C' []∧Psi s C' [] i≤Psi s C td i∧n'+Psi s C' [] i≤n+Psi s C td i∧n≤n':=by
 have q1:=hx.cx.wl;have key:=rounds (σ:=y0) (ρ:=y0) (L:=W7.l0 K i)
  (fun z=>∃ C' n' td',z=E s C' n' td'∧Wk s X0 C0 i t ng (fun _=>True) D C' td'∧Psi s C' td' i≤Psi s C td i∧n'+Psi s C' td' i≤n+Psi s C td i∧n≤n')
  (fun z=>Psi s z.columns z.todo i)
  (fun ρ=>∃ C' n',ρ=E s C' n' []∧Wk s X0 C0 i t ng (fun _=>True) D C' []∧Psi s C' [] i≤Psi s C td i∧n'+Psi s C' [] i≤n+Psi s C td i∧n≤n') ?_ K (E s C n td) ⟨C,n,td,rfl,h,Nat.le_refl _,Nat.le_refl _,Nat.le_refl _⟩ (by show Psi s C td i<K;omega)
 ·obtain ⟨ρ,e1,C',n',rfl,hh⟩:=key;unfold W7;rw [e1];exact ⟨C',n',rfl,hh⟩
 ·rintro z mm ⟨C',n',td',rfl,k1,k2,k3,k4⟩;have htd:=Psi_td s C' td' i;simp only [W7.l0]
  by_cases h0:td'=[]
  ·subst h0;rw [if_neg (by simp)];exact .inl ⟨_,rfl,C',n',rfl,k1,k2,k3,k4⟩
  ·have hpos:0<td'.length:=List.length_pos_iff.2 h0;have e1:IntKind.wrap .i64 ((td'.length:Int)-1)=((td'.length-1:Nat):Int):=by rw [wr (by omega) (by omega)];omega
   obtain ⟨p,p1,p2⟩:=k1.todo _ (rd_mem' (xs:=td') (show td'.length-1<td'.length by omega));have esplit:td'=td'.take (td'.length-1)++[(p:Int)]:=by
    have:=take_succ_rd (xs:=td') (show td'.length-1<td'.length by omega);rw [p1,show td'.length-1+1=td'.length by omega,List.take_length] at this;exact this
   have hw:Wk s X0 C0 i t ng (fun q=>True∧q≠p) D C' (td'.take (td'.length-1)):=by
    refine ⟨k1.shp,k1.len,k1.env,k1.low,k1.nms,k1.oth,k1.ri,k1.snd,fun q hq hv hs=>(k1.cpl q hq trivial hs).imp id fun z=>?_,k1.rul,fun v hv=>k1.todo v (List.mem_of_mem_take hv),k1.ngx,k1.pst⟩;rw [esplit] at z;rcases List.mem_append.1 z with z|z
    ·exact z
    ·rw [List.mem_singleton] at z;exact (hv.2 (by omega)).elim
   have hPp:Psi s C' (td'.take (td'.length-1)) i+lkL s i=Psi s C' td' i:=by
    unfold Psi;rw [List.length_take,Nat.min_eq_left (by omega)];have:lkL s i*td'.length=lkL s i*(td'.length-1)+lkL s i:=by
     obtain ⟨q,hq⟩:∃ q,td'.length=q+1:=⟨td'.length-1,by omega⟩
     rw [hq,Nat.mul_add,Nat.mul_one];simp
    omega
   have hlk:2≤lkL s i:=by show 2≤s.w.length-i+2;omega
   obtain ⟨C2,n2,td2,g1,g2,g3,g4,g5⟩:=tLook_spec K hK s hx X0 C0 i hi t ng (fun _=>True) D C' _ p p2 hw n' (by omega) (by omega);simp only [e1,p1,Int.toNat_natCast];rw [if_pos (by omega),if_pos (by omega),if_pos (by omega),if_pos (by omega),g1,Option.bind_some];exact .inr ⟨_,⟨C2,n2,td2,rfl,g2.mono (fun _ _ _=>.inl trivial) (fun _ z=>z),by omega,by omega,by omega⟩,by show Psi s C2 td2 i<Psi s C' td' i;omega,rfl⟩
def actN (s:TS)(t:Int)(ng:Bool)(L:Nat)(p:Nat):Nat:=if plv s p=t∧png s.g p=ng then L else 0
theorem tPass_spec (K:Nat)(hK:1000000≤K)(s:TS)(hx:TX s)(X0 C0:List M0)(i:Nat)(hi:i≤s.w.length)(t:Int)(ng:Bool)(D:Nat→Prop)(u:Int)(hu:rd ([true,false]:List Bool) u=ng)(C:List M0)
  (h:Wk s X0 C0 i t ng (fun _=>False) D C []) (n:Nat) (hn:n+Psi s C [] i+wsum (actN s t ng (lkL s i)) (trip s.g).length+6000≤4611686018427387904) (hP:Psi s C [] i≤500000) :
  ∃ C' n' td' k,L3.l1 K t i u K (E s C n [],IntKind.wrap .i64 ((s.pl.length:Int)-1))=some (E s C' n' td',k)∧Wk s X0 C0 i t ng (fun _=>True) D C' td'∧Psi s C' td' i≤Psi s C [] i∧n'+Psi s C' td' i≤n+Psi s C [] i+wsum (actN s t ng (lkL s i)) (trip s.g).length∧n≤n':=by
 have q2:=hx.pn;have e0:IntKind.wrap .i64 ((s.pl.length:Int)-1)=((trip s.g).length:Int)-1:=by rw [hx.pll,wr (by omega) (by omega)]
 rw [e0];have key:=rounds (σ:=y0×Int) (ρ:=y0×Int) (L:=L3.l1 K t i u)
  (fun z=>∃ (d:Nat) (C':List M0) (n':Nat) (td':List Int),z=(E s C' n' td',(d:Int)-1)∧d≤(trip s.g).length∧Wk s X0 C0 i t ng (fun q=>d≤q) D C' td'∧Psi s C' td' i≤Psi s C [] i∧n'+Psi s C' td' i+wsum (actN s t ng (lkL s i)) d≤n+Psi s C [] i+wsum (actN s t ng (lkL s i)) (trip s.g).length∧n≤n')
  (fun z=>(z.2+1).toNat)
  (fun ρ=>∃ C' n' td' k,ρ=(E s C' n' td',k)∧Wk s X0 C0 i t ng (fun _=>True) D C' td'∧Psi s C' td' i≤Psi s C [] i∧n'+Psi s C' td' i≤n+Psi s C [] i+wsum (actN s t ng (lkL s i)) (trip s.g).length∧n≤n') ?_ K (E s C n [],((trip s.g).length:Int)-1) ⟨(trip s.g).length,C,n,[],rfl,Nat.le_refl _,h.mono (fun p hp hv=>by have:=hp.1;omega) (fun _ z=>z),Nat.le_refl _,Nat.le_refl _,Nat.le_refl _⟩ (by simp;omega)
 ·obtain ⟨ρ,e1,C',n',td',k,rfl,hh⟩:=key;exact ⟨C',n',td',k,e1,hh⟩
 ·rintro z mm ⟨d,C',n',td',rfl,k1,k2,k3,k4,k5⟩;simp only [L3.l1]
  cases d with
  | zero =>
   rw [if_neg (by omega)];exact .inl ⟨_,rfl,C',n',td',_,rfl,k2.mono (fun _ _ _=>Nat.zero_le _) (fun _ z=>z),k3,by simp only [wsum] at k4;omega,k5⟩
  | succ d =>
   have e1:(((d+1:Nat):Int)-1)=(d:Int):=by omega
   have e2:IntKind.wrap .i64 ((d:Int)-1)=(d:Int)-1:=by rw [wr (by omega) (by omega)]
   have hd:d<(trip s.g).length:=by omega
   simp only [wsum] at k4;simp only [e1,e2];rw [if_pos (by omega),if_pos (by rw [hx.pll];omega),hu];simp only [hx.plr hd,mkP]
   by_cases h1:plv s d=t
   ·rw [if_pos h1]
    by_cases h2:png s.g d=ng
    ·rw [if_pos h2];have hact:actN s t ng (lkL s i) d=lkL s i:=if_pos ⟨h1,h2⟩;obtain ⟨C2,n2,td2,g1,g2,g3,g4,g5⟩:=tLook_spec K hK s hx X0 C0 i hi t ng (fun q=>d+1≤q) D C' td' d ⟨hd,h1,h2⟩ (k2.mono (fun _ _ z=>z.1) (fun _ z=>z)) n' (by omega) (by omega);rw [g1,Option.bind_some];exact .inr ⟨_,⟨d,C2,n2,td2,rfl,by omega,g2.mono (fun q _ z=>(Nat.lt_or_ge d q).elim .inl fun e=>.inr (Nat.le_antisymm e z)) (fun _ z=>z),by omega,by omega,by omega⟩,by simp,rfl⟩
    ·rw [if_neg h2];have hact:actN s t ng (lkL s i) d=0:=if_neg fun z=>h2 z.2
     exact .inr ⟨_,⟨d,C',n',td',rfl,by omega,k2.mono (fun q hq z=>(Nat.lt_or_ge d q).elim id fun e=>(h2 (by rw [← Nat.le_antisymm e z];exact hq.2.2)).elim) (fun _ z=>z),k3,by omega,k5⟩,by simp,rfl⟩
   ·rw [if_neg h1];have hact:actN s t ng (lkL s i) d=0:=if_neg fun z=>h1 z.1
    exact .inr ⟨_,⟨d,C',n',td',rfl,by omega,k2.mono (fun q hq z=>(Nat.lt_or_ge d q).elim id fun e=>(h1 (by rw [← Nat.le_antisymm e z];exact hq.2.1)).elim) (fun _ z=>z),k3,by omega,k5⟩,by simp,rfl⟩
def rulN (s:TS)(t:Int)(r:Nat):Nat:=if rd s.xs (rd s.g.Rules (r:Int)).Head=t then nc s.g r else 0
theorem tRules_spec (K:Nat)(hK:1000000≤K)(s:TS)(hx:TX s)(X0 C0:List M0)(i:Nat)(hi:i≤s.w.length)(t:Int)(D:Nat→Prop)(o:y0)(ho:o.g.Rules.length=s.g.Rules.length)(C:List M0)
  (h:Wk s X0 C0 i t false (fun _=>True) D C []) (n:Nat) (hn:n+Psi s C [] i+wsum (rulN s t) s.g.Rules.length+6000≤4611686018427387904) (hP:Psi s C [] i≤500000) :
  ∃ C' n' td' k,L3.l2 K t i o K (E s C n [],0)=some (E s C' n' td',k)∧Wk s X0 C0 i t false (fun _=>True) (fun q=>q<s.g.Rules.length) C' td'∧Psi s C' td' i≤Psi s C [] i∧n'+Psi s C' td' i≤n+Psi s C [] i+wsum (rulN s t) s.g.Rules.length∧n≤n':=by
 have q2:=hx.cx.rl;have key:=rounds (σ:=y0×Int) (ρ:=y0×Int) (L:=L3.l2 K t i o)
  (fun z=>∃ (d:Nat) (C':List M0) (n':Nat) (td':List Int),z=(E s C' n' td',(d:Int))∧d≤s.g.Rules.length∧Wk s X0 C0 i t false (fun _=>True) (fun q=>D q∨q<d) C' td'∧Psi s C' td' i≤Psi s C [] i∧n'+Psi s C' td' i≤n+Psi s C [] i+wsum (rulN s t) d∧n≤n')
  (fun z=>s.g.Rules.length-z.2.toNat)
  (fun ρ=>∃ C' n' td' k,ρ=(E s C' n' td',k)∧Wk s X0 C0 i t false (fun _=>True) (fun q=>q<s.g.Rules.length) C' td'∧Psi s C' td' i≤Psi s C [] i∧n'+Psi s C' td' i≤n+Psi s C [] i+wsum (rulN s t) s.g.Rules.length∧n≤n') ?_ K (E s C n [],0) ⟨0,C,n,[],rfl,Nat.zero_le _,h.mono (fun _ _ z=>z) (fun _ z=>z.elim id fun z=>by omega),Nat.le_refl _,by simp [wsum],Nat.le_refl _⟩ (by simp;omega)
 ·obtain ⟨ρ,e1,C',n',td',k,rfl,hh⟩:=key;exact ⟨C',n',td',k,e1,hh⟩
 ·rintro z mm ⟨d,C',n',td',rfl,k1,k2,k3,k4,k5⟩;simp only [L3.l2];rw [ho]
  by_cases hd:d<s.g.Rules.length
  ·have e2:IntKind.wrap .i64 ((d:Int)+1)=((d+1:Nat):Int):=by rw [wr (by omega) (by omega)];omega
   have hle:wsum (rulN s t) d+rulN s t d≤wsum (rulN s t) s.g.Rules.length:=by
    have:∀ m,d<m→wsum (rulN s t) d+rulN s t d≤wsum (rulN s t) m:=by
     intro m
     induction m with
     | zero=>intro h;omega
     | succ m ih =>
      intro hm;simp only [wsum]
      by_cases e:d=m
      ·subst e;omega
      ·have:=ih (by omega);omega
    exact this _ hd
   obtain ⟨C2,n2,td2,g1,g2,g3,g4,g5⟩:=tRule_spec K hK s hx X0 C0 i hi t (fun _=>True) (fun q=>D q∨q<d) C' td' d hd (k2.mono (fun _ _ z=>z) (fun _ z=>z.1)) n' (by omega) (by omega);rw [if_pos (by omega),g1,Option.bind_some];simp only [e2];exact .inr ⟨_,⟨d+1,C2,n2,td2,rfl,hd,g2.mono (fun _ _ z=>z) (fun q z=>z.elim (fun z=>.inl (.inl z)) fun z=>by
    by_cases e:q=d
    ·exact .inr e
    ·exact .inl (.inr (by omega))),by omega,by simp only [wsum];show _≤_+(_+if rd s.xs (rd s.g.Rules (d:Int)).Head=t then nc s.g d else 0);omega,by omega⟩,by simp;omega,rfl⟩
  ·rw [if_neg (by omega)];have:d=s.g.Rules.length:=by omega
   subst this;exact .inl ⟨_,rfl,C',n',td',_,rfl,k2.mono (fun _ _ z=>z) (fun _ z=>.inr z),k3,k4,k5⟩
structure Sq (s:TS)(X0:List M0)(i:Nat)(t:Int)(C:List M0):Prop where
 shp:ShT s C
 len:C.length=s.w.length+1
 env:∀ x a b,¬ (a=i∧b=s.w.length)→(NT C x a b↔NT X0 x a b)
 oth:∀ p a b,¬ (a=i∧b=s.w.length)→(RT C p a b↔RT X0 p a b)
 ri:RI s.g.Names.length s.g.Rules (rd s.xs) (HS (NT X0) (wf s.w) i s.w.length) t fun x=>NT C x i s.w.length
 lo:∀ p,p<(trip s.g).length→plv s p<t→(RT C p i s.w.length↔SeqS (NT C) (wf s.w) (rest s.g p) i s.w.length)
 hi:∀ p,p<(trip s.g).length→t≤plv s p→¬ RT C p i s.w.length
 pst:∀ p,p<(trip s.g).length→∀ k,i<k→k≤s.w.length→(RT C p k s.w.length↔SeqS (NT C) (wf s.w) (rest s.g p) k s.w.length)
def cst (s:TS)(i:Nat)(t:Int):Nat:=wsum (fun p=>if plv s p=t then lkL s i else 0) (trip s.g).length+wsum (rulN s t) s.g.Rules.length
theorem cst_act (s:TS)(t:Int)(L:Nat)(n:Nat):wsum (actN s t true L) n+wsum (actN s t false L) n=wsum (fun p=>if plv s p=t then L else 0) n:=by
 rw [← wsum_add];refine wsum_congr fun k _=>?_
 unfold actN
 by_cases h:plv s k=t
 ·cases hn:png s.g k <;> simp [h]
 ·simp [h]
theorem tSpan_spec (K:Nat)(hK:1000000≤K)(s:TS)(hx:TX s)(X0:List M0)(i:Nat)(hi:i≤s.w.length)(t:Int)(C:List M0)(h:Sq s X0 i t C)(n:Nat)(hn:n+Psi s C [] i+cst s i t+6000≤4611686018427387904)(hP:Psi s C [] i≤500000) :
  ∃ C' n',L3 K (E s C n []) t i=some (E s C' n' [])∧Sq s X0 i (t+1) C'∧Psi s C' [] i≤Psi s C [] i∧n'+Psi s C' [] i≤n+Psi s C [] i+cst s i t∧n≤n':=by
 have hca:=cst_act s t (lkL s i) (trip s.g).length;unfold cst at hn ⊢;have w1:Wk s X0 C i t true (fun _=>False) (fun _=>True) C []:=⟨h.shp,h.len,h.env,fun _ _ _ _ _=>Iff.rfl,fun _=>rfl,fun _ _ _ _=>Iff.rfl,h.ri,fun p hp hh=>(h.hi p hp.1 (by have:=hp.2.1;omega) hh).elim,fun _ _ z=>z.elim,fun e=>absurd e (by decide),fun v hv=>(by cases hv),fun e=>absurd e (by decide),h.pst⟩
 obtain ⟨C1,n1,td1,k1,e1,w2,p1,b1,m1⟩:=tPass_spec K hK s hx X0 C i hi t true (fun _=>True) 0 rfl C w1 n (by omega) hP;obtain ⟨C2,n2,e2,w3,p2,b2,m2⟩:=tAgain_spec K hK s hx X0 C i hi t true (fun _=>True) C1 td1 w2 n1 (by omega) (by omega);have x2:∀ p,Act s t true p→(RT C2 p i s.w.length↔SeqS (NT C2) (wf s.w) (rest s.g p) i s.w.length):=fun p hp=>w3.exact hp
 have o2:∀ p a b,(a=i∧b=s.w.length→¬ Act s t true p)→(RT C2 p a b↔RT C p a b):=fun p a b hne=>w3.oth p a b fun z=>hne ⟨z.1,z.2.1⟩ z.2.2
 have nN2:NT C2=NT C:=w3.nms rfl;have w4:Wk s X0 C2 i t false (fun _=>False) (fun r=>∃ c,c<nc s.g r∧(rd (rd s.g.Rules (r:Int)).Conj (c:Int)).Neg=false) C2 []:=by
  have noP:∀ p,Act s t false p→¬ RT C2 p i s.w.length:=fun p hp hh=>h.hi p hp.1 (by have:=hp.2.1;omega) ((o2 p i s.w.length fun _ z=>by have h1:=hp.2.2;have h2:=z.2.2;rw [h1] at h2;cases h2).1 hh)
  refine ⟨w3.shp,w3.len,w3.env,fun _ _ _ _ _=>Iff.rfl,fun e=>absurd e (by decide),fun _ _ _ _=>Iff.rfl,w3.ri,fun p hp hh=>(noP p hp hh).elim,fun _ _ z=>z.elim,fun _ r ⟨c,c1,c2⟩ hr ht hcb=>?_,fun v hv=>(by cases hv),fun _=>x2,w3.pst⟩;obtain ⟨g1,g2,g3⟩:=bgn_ok hx hr c1;have:=hcb c c1;rw [c2] at this;exact (noP (bgn s r c) ⟨g2,by unfold plv;rw [g3];exact ht,by unfold png;rw [g3];exact c2⟩ (Classical.byContradiction fun z=>by cases this.2 z)).elim
 obtain ⟨C3,n3,td3,k3,e3,w5,p3,b3,m3⟩:=tPass_spec K hK s hx X0 C2 i hi t false _ 1 rfl C2 w4 n2 (by omega) (by omega);obtain ⟨C4,n4,e4,w6,p4,b4,m4⟩:=tAgain_spec K hK s hx X0 C2 i hi t false _ C3 td3 w5 n3 (by omega) (by omega);obtain ⟨C5,n5,td5,k5,e5,w7,p5,b5,m5⟩:=tRules_spec K hK s hx X0 C2 i hi t _ (E s C4 n4 []) rfl C4 w6 n4 (by omega) (by omega);obtain ⟨C6,n6,e6,w8,p6,b6,m6⟩:=tAgain_spec K hK s hx X0 C2 i hi t false _ C5 td5 w7 n5 (by omega) (by omega);refine ⟨C6,n6,?_,?_,by omega,by omega,by omega⟩
 ·unfold L3;obtain ⟨m,rfl⟩:∃ m,K=m+3:=⟨K-3,by omega⟩
  have s0:∀ q:Int,IntKind.wrap .i64 (0+1)=1:=fun _=>by rw [wr (by decide) (by decide)];rfl
  have s1:∀ q:Int,IntKind.wrap .i64 (1+1)=2:=fun _=>by rw [wr (by decide) (by decide)];rfl
  have l0:L3.l0 (m+3) t i (m+3) (E s C n [],0)=some (E s C4 n4 [],2):=by
   rw [show m+3=(m+2)+1 from rfl,L3.l0];simp only;rw [if_pos (by decide),if_pos (by decide),if_pos (by decide)];erw [e1];rw [Option.bind_some];simp only;erw [e2];rw [Option.bind_some,s0 0,L3.l0];simp only;rw [if_pos (by decide),if_pos (by decide),if_pos (by decide)];erw [e3];rw [Option.bind_some];simp only;erw [e4];rw [Option.bind_some,s1 0,L3.l0];simp only;rw [if_neg (by decide)]
  rw [l0,Option.bind_some];simp only;erw [e5];rw [Option.bind_some];simp only;erw [e6];rfl
 ·have lowN:∀ y:Int,0≤y→rd s.xs y≠t→∀ a b,NT C6 y a b↔NT C y a b:=fun y h0 hne a b=>by rw [w8.low y h0 hne a b,nN2]
  have o6:∀ p a b,(a=i∧b=s.w.length→p<(trip s.g).length→plv s p≠t)→(RT C6 p a b↔RT C p a b):=fun p a b hne=>by
   rw [w8.oth p a b fun z=>hne ⟨z.1,z.2.1⟩ z.2.2.1 z.2.2.2.1];exact o2 p a b fun z1 z2=>hne z1 z2.1 z2.2.1
  have all6:∀ p,p<(trip s.g).length→plv s p=t→(RT C6 p i s.w.length↔SeqS (NT C6) (wf s.w) (rest s.g p) i s.w.length):=fun p hp ht=>by
   cases hg:png s.g p with
   | true=>exact w8.ngx rfl p ⟨hp,ht,hg⟩
   | false=>exact w8.exact ⟨hp,ht,hg⟩
  refine ⟨w8.shp,w8.len,w8.env,fun p a b hne=>(o6 p a b fun z=>(hne z).elim).trans (h.oth p a b hne),?_,fun p hp hlt=>?_,fun p hp hlt hh=>?_,w8.pst⟩
  ·refine w8.ri.up fun r hr ht hH=>?_
   obtain ⟨q,hq,rfl⟩:=mem_rd hr;refine w8.rul rfl q hq hq ht fun c hc=>?_
   unfold HS at hH;rw [w8.self] at hH;obtain ⟨g1,g2,g3⟩:=bgn_ok hx hq hc;have:=all6 (bgn s q c) g2 (by unfold plv;rw [g3];exact ht);rw [bgn_rest hx hq hc] at this;rw [this];exact hH _ (rd_mem' hc)
  ·by_cases e:plv s p=t
   ·exact all6 p hp e
   ·rw [o6 p i s.w.length fun _ _=>e,h.lo p hp (by omega)];refine SeqS_env fun y hy h0 a b _ _ _=>(lowN y.Name h0 ?_ a b).symm
    have:=(names_lv hx hp (rest_sub hy) h0).2
    split at this <;> omega
  ·exact h.hi p hp (by omega) ((o6 p i s.w.length fun _ _=>by omega).1 hh)
structure SqD (s:TS)(X0:List M0)(i:Nat)(C:List M0):Prop where
 shp:ShT s C
 len:C.length=s.w.length+1
 env:∀ x a b,¬ (a=i∧b=s.w.length)→(NT C x a b↔NT X0 x a b)
 oth:∀ p a b,¬ (a=i∧b=s.w.length)→(RT C p a b↔RT X0 p a b)
 pm:PM1 s.g.Names.length s.g.Rules (rd s.xs) (HS (NT X0) (wf s.w) i s.w.length) fun x=>NT C x i s.w.length
 full:∀ p,p<(trip s.g).length→(RT C p i s.w.length↔SeqS (NT C) (wf s.w) (rest s.g p) i s.w.length)
def lft (s:TS)(i:Nat)(t:Int):Nat:=wsum (fun p=>if t≤plv s p then lkL s i else 0) (trip s.g).length+wsum (fun r=>if t≤rd s.xs (rd s.g.Rules (r:Int)).Head then nc s.g r else 0) s.g.Rules.length
theorem lft_step (s:TS)(i:Nat)(t:Int):lft s i t=cst s i t+lft s i (t+1):=by
 unfold lft cst;have e1:wsum (fun p=>if t≤plv s p then lkL s i else 0) (trip s.g).length=wsum (fun p=>(if plv s p=t then lkL s i else 0)+if t+1≤plv s p then lkL s i else 0) (trip s.g).length:=wsum_congr fun k _=>by
  by_cases h:plv s k=t
  ·rw [if_pos (by omega),if_pos h,if_neg (by omega)]
  ·by_cases h2:t≤plv s k
   ·rw [if_pos h2,if_neg h,if_pos (by omega)];omega
   ·rw [if_neg h2,if_neg h,if_neg (by omega)]
 have e2:wsum (fun r=>if t≤rd s.xs (rd s.g.Rules (r:Int)).Head then nc s.g r else 0) s.g.Rules.length=wsum (fun r=>rulN s t r+if t+1≤rd s.xs (rd s.g.Rules (r:Int)).Head then nc s.g r else 0) s.g.Rules.length:=wsum_congr fun k _=>by
  unfold rulN
  by_cases h:rd s.xs (rd s.g.Rules (k:Int)).Head=t
  ·rw [if_pos (by omega),if_pos h,if_neg (by omega)];omega
  ·by_cases h2:t≤rd s.xs (rd s.g.Rules (k:Int)).Head
   ·rw [if_pos h2,if_neg h,if_pos (by omega)];omega
   ·rw [if_neg h2,if_neg h,if_neg (by omega)]
 rw [e1,e2,wsum_add,wsum_add];omega
theorem lft_le (s:TS)(i:Nat)(t:Int):lft s i t≤(trip s.g).length*(lkL s i+1):=by
 unfold lft;have h1:wsum (fun p=>if t≤plv s p then lkL s i else 0) (trip s.g).length≤wsum (fun _=>lkL s i) (trip s.g).length:=wsum_le fun k _=>by split <;> omega
 have h2:wsum (fun r=>if t≤rd s.xs (rd s.g.Rules (r:Int)).Head then nc s.g r else 0) s.g.Rules.length≤wsum (nc s.g) s.g.Rules.length:=wsum_le fun k _=>by split <;> omega
 have h3:=conj_le s.g;rw [wsum_const] at h1;rw [Nat.mul_add,Nat.mul_one];omega
theorem Psi_le {s:TS}(hx:TX s)(C:List M0)(i:Nat):Psi s C [] i≤(trip s.g).length*(2*lkL s i+9):=by
 unfold Psi;have h1:wsum (fun p=>if bit (rd (rd C (s.w.length:Int)).rests (p:Int)) i=true then 0 else lkL s i+8) (trip s.g).length≤wsum (fun _=>lkL s i+8) (trip s.g).length:=wsum_le fun k _=>by split <;> omega
 have h2:wsum (fun x=>if bit (rd (rd C (s.w.length:Int)).names (x:Int)) i=true then 0 else (rd s.at_ (x:Int)).length*(lkL s i+1)) s.g.Names.length≤wsum (fun x=>(rd s.at_ (x:Int)).length*(lkL s i+1)) s.g.Names.length:=wsum_le fun k _=>by split <;> omega
 rw [wsum_const] at h1;rw [wsum_mul] at h2;have h3:wsum (fun x=>(rd s.at_ (x:Int)).length) s.g.Names.length*(lkL s i+1)≤(trip s.g).length*(lkL s i+1):=Nat.mul_le_mul_right _ hx.at_.sum;have h4:(trip s.g).length*(2*lkL s i+9)=(trip s.g).length*(lkL s i+8)+(trip s.g).length*(lkL s i+1):=by rw [← Nat.mul_add];congr 1;omega
 simp only [List.length_nil,Nat.mul_zero];omega
theorem per_le {P a b:Nat}(h:a≤b):P*a≤P*b:=Nat.mul_le_mul_left _ h
theorem tLevels_spec (K:Nat)(hK:1000000≤K)(s:TS)(hx:TX s)(X0:List M0)(i:Nat)(hi:i≤s.w.length)(h:ShT s X0)(hl:X0.length=s.w.length+1)
  (hp:∀ p,p<(trip s.g).length→∀ k,i<k→k≤s.w.length→(RT X0 p k s.w.length↔SeqS (NT X0) (wf s.w) (rest s.g p) k s.w.length)) (hz:∀ p,¬ RT X0 p i s.w.length) (hn:∀ x:Int,¬ NT X0 x i s.w.length)
  (o:y0) (ho:o.most=s.most) (n:Nat) (hB:n+2000000≤4611686018427387904) :
  ∃ C' n' k,W5.l1 K o i K (E s X0 n [],0)=some (E s C' n' [],k)∧SqD s X0 i C'∧n≤n'∧n'≤n+(trip s.g).length*(3*s.w.length+16):=by
 have q1:=hx.cx.wl;have q2:=hx.pn;have hP0:=Psi_le hx X0 i;have hlv:=HS_lvl hx.cx.lv (NT X0) (wf s.w) i s.w.length;have hm:=hx.m0;have hL0:=lft_le s i 0;have hlk:lkL s i≤s.w.length+2:=by show s.w.length-i+2≤_;omega
 have hlk34:lkL s i≤34:=by omega
 have b1:(trip s.g).length*(2*lkL s i+9)≤3072*77:=Nat.mul_le_mul q2 (by omega);have b2:(trip s.g).length*(lkL s i+1)≤3072*35:=Nat.mul_le_mul q2 (by omega);have bT:(trip s.g).length*(2*lkL s i+9)+(trip s.g).length*(lkL s i+1)≤(trip s.g).length*(3*s.w.length+16):=by rw [← Nat.mul_add];exact per_le (by omega)
 have key:=rounds (σ:=y0×Int) (ρ:=y0×Int) (L:=W5.l1 K o i)
  (fun z=>∃ (t:Nat) (C':List M0) (n':Nat),z=(E s C' n' [],(t:Int))∧(t:Int)≤s.most+1∧Sq s X0 i t C'∧Psi s C' [] i≤Psi s X0 [] i∧n'+Psi s C' [] i+lft s i t≤n+Psi s X0 [] i+lft s i 0∧n≤n')
  (fun z=>(s.most+1-z.2).toNat)
  (fun ρ=>∃ C' n' k,ρ=(E s C' n' [],k)∧SqD s X0 i C'∧n≤n'∧n'≤n+(trip s.g).length*(3*s.w.length+16)) ?_ K (E s X0 n [],0) ⟨0,X0,n,rfl,by omega,⟨h,hl,fun _ _ _ _=>Iff.rfl,fun _ _ _ _=>Iff.rfl,?_,fun p hp hlt=>?_,fun p _ _=>hz p,hp⟩,Nat.le_refl _,Nat.le_refl _,Nat.le_refl _⟩ (by simp;omega)
 ·obtain ⟨ρ,e1,C',n',k,rfl,hh⟩:=key;exact ⟨C',n',k,e1,hh⟩
 ·rintro z mm ⟨t,C',n',rfl,k1,k2,k3,k4,k5⟩;simp only [W5.l1];have em:IntKind.wrap .i64 (s.most+1)=s.most+1:=wr (by omega) (by omega);rw [ho,em]
  by_cases ht:(t:Int)<s.most+1
  ·have e2:IntKind.wrap .i64 ((t:Int)+1)=((t+1:Nat):Int):=by rw [wr (by omega) (by omega)];omega
   have hls:=lft_step s i t;have hc:cst s i t≤lft s i t:=by omega
   obtain ⟨C2,n2,g1,g2,g3,g4,g5⟩:=tSpan_spec K hK s hx X0 i hi t C' k2 n' (by omega) (by omega);rw [if_pos ht,g1,Option.bind_some];simp only [e2];refine .inr ⟨_,⟨t+1,C2,n2,rfl,by omega,g2,by omega,?_,by omega⟩,by simp;omega,rfl⟩;rw [show ((t+1:Nat):Int)=(t:Int)+1 by omega];omega
  ·rw [if_neg ht];have et:(t:Int)=s.most+1:=by omega
   refine .inl ⟨_,rfl,C',n',_,rfl,⟨k2.shp,k2.len,k2.env,k2.oth,?_,fun p hp=>k2.lo p hp (by have:=hx.ml _ (fj hp).1;show rd s.xs _<_;omega)⟩,k5,by omega⟩;exact ⟨fun r hr hH=>k2.ri.c r hr (by obtain ⟨q,hq,rfl⟩:=mem_rd hr;have:=hx.ml q hq;omega) hH,k2.ri.b,k2.ri.d⟩
 ·refine RI_on (RI.zero hx.cx.l0 hlv) (fun y _ _=>?_) hlv;exact ⟨fun z=>hn y z,fun z=>z.elim⟩
 ·have:=hx.cx.hd (fj hp).1;have:=hx.cx.l0 _ this.1 this.2;have hlt:rd s.xs (rd s.g.Rules ((tg s.g p).1:Int)).Head<((0:Nat):Int):=hlt;omega
structure GoodT (s:TS)(C:List M0):Prop where
 shp:ShT s C
 len:C.length=s.w.length+1
 pm:PMs s.g.Names.length s.g.Rules (rd s.xs) (wf s.w) s.w.length (NT C)
 full:∀ p,p<(trip s.g).length→∀ i k,i≤k→k≤s.w.length→(RT C p i k↔SeqS (NT C) (wf s.w) (rest s.g p) i k)
theorem tGrow_l0 (K:Nat)(hK:1000000≤K)(s:TS)(hx:TX s)(X0:List M0)(h:ShT s X0)(hl:X0.length=s.w.length+1)
  (hpm:∀ i k,i≤k→k<s.w.length→PM1 s.g.Names.length s.g.Rules (rd s.xs) (HS (NT X0) (wf s.w) i k) fun x=>NT X0 x i k)
  (hp:∀ p,p<(trip s.g).length→∀ i k,i≤k→k<s.w.length→(RT X0 p i k↔SeqS (NT X0) (wf s.w) (rest s.g p) i k)) (hz:∀ p i,¬ RT X0 p i s.w.length) (hn:∀ (x:Int) i,¬ NT X0 x i s.w.length)
  (n:Nat) (hB:n+20000000≤4611686018427387904) :
  ∃ C' n' k,W5.l0 K K (E s X0 n [],(s.w.length:Int))=some (E s C' n' [],k)∧GoodT s C'∧n≤n'∧n'≤n+(s.w.length+1)*((trip s.g).length*(3*s.w.length+16)):=by
 have q1:=hx.cx.wl;have q2:=hx.pn;have b1:(trip s.g).length*(3*s.w.length+16)≤3072*112:=Nat.mul_le_mul q2 (by omega);have b2:(s.w.length+1)*((trip s.g).length*(3*s.w.length+16))≤33*(3072*112):=Nat.mul_le_mul (by omega) b1;have key:=rounds (σ:=y0×Int) (ρ:=y0×Int) (L:=W5.l0 K)
  (fun z=>∃ (d:Nat) (Y:List M0) (n':Nat),z=(E s Y n' [],(d:Int)-1)∧d≤s.w.length+1∧ShT s Y∧Y.length=s.w.length+1 ∧
   (∀ x a b,¬ (d≤a∧b=s.w.length)→(NT Y x a b↔NT X0 x a b))∧(∀ p a b,¬ (d≤a∧b=s.w.length)→(RT Y p a b↔RT X0 p a b)) ∧
   (∀ i,d≤i→i≤s.w.length→PM1 s.g.Names.length s.g.Rules (rd s.xs) (HS (NT Y) (wf s.w) i s.w.length) fun x=>NT Y x i s.w.length) ∧
   (∀ p,p<(trip s.g).length→∀ i,d≤i→i≤s.w.length→(RT Y p i s.w.length↔SeqS (NT Y) (wf s.w) (rest s.g p) i s.w.length)) ∧
   n'+d*((trip s.g).length*(3*s.w.length+16))≤n+(s.w.length+1)*((trip s.g).length*(3*s.w.length+16))∧n≤n')
  (fun z=>(z.2+1).toNat) (fun ρ=>∃ Y n' k,ρ=(E s Y n' [],k)∧GoodT s Y∧n≤n'∧n'≤n+(s.w.length+1)*((trip s.g).length*(3*s.w.length+16))) ?_ K (E s X0 n [],(s.w.length:Int)) ⟨s.w.length+1,X0,n,by simp,Nat.le_refl _,h,hl,fun _ _ _ _=>Iff.rfl,fun _ _ _ _=>Iff.rfl,fun i h1 h2=>by omega,fun p _ i h1 h2=>by omega,Nat.le_refl _,Nat.le_refl _⟩ (by simp;omega)
 ·obtain ⟨ρ,e1,Y,n',k,rfl,hh⟩:=key;exact ⟨Y,n',k,e1,hh⟩
 ·rintro z mm ⟨d,Y,n',rfl,k1,k2,k3,k4,k5,k6,k7,k8,k9⟩;simp only [W5.l0]
  cases d with
  | zero =>
   rw [if_neg (by simp)];refine .inl ⟨_,rfl,Y,n',_,rfl,⟨k2,k3,fun i k hik hk=>?_,fun p hp' i k hik hk=>?_⟩,k9,by omega⟩
   ·by_cases e:k=s.w.length
    ·subst e;exact k6 i (Nat.zero_le _) hik
    ·have h1:=(hpm i k hik (by omega)).env hx.cx.lv (B:=NT Y) fun y _ _ a b _ _ h3 _=>(k4 y a b (fun x=>by omega)).symm
     have h2:(fun x=>NT X0 x i k)=fun x=>NT Y x i k:=by funext x;exact propext (k4 x i k (fun z=>e z.2)).symm
     rw [← h2];exact h1
   ·by_cases e:k=s.w.length
    ·subst e;exact k7 p hp' i (Nat.zero_le _) hik
    ·rw [k5 p i k (fun z=>e z.2),hp p hp' i k hik (by omega)];exact (SeqS_env fun y _ _ a b _ _ h3=>k4 y.Name a b (fun x=>by omega)).symm
  | succ d =>
   have e0:(((d+1:Nat):Int)-1)=(d:Int):=by omega
   have e1:IntKind.wrap .i64 ((d:Int)-1)=(d:Int)-1:=by rw [wr (by omega) (by omega)]
   rw [if_pos (by omega)];simp only [e0,e1];rw [Nat.add_mul,Nat.one_mul] at k8;obtain ⟨Z,n2,u2,el,hd,m1,m2⟩:=tLevels_spec K hK s hx Y d (by omega) k2 k3 (fun p hp' k g1 g2=>k7 p hp' k (by omega) g2) (fun p hh=>hz p d ((k5 p d s.w.length (fun x=>by omega)).1 hh)) (fun x hh=>hn x d ((k4 x d s.w.length (fun z=>by omega)).1 hh)) (E s Y n' []) rfl n' (by omega);erw [el];rw [Option.bind_some];refine .inr ⟨(E s Z n2 [],(d:Int)-1),⟨d,Z,n2,rfl,by omega,hd.shp,hd.len,fun x a b hh=>?_,fun p a b hh=>?_,fun i h1 h2=>?_,fun p hp' i h1 h2=>?_,by omega,by omega⟩,by simp,rfl⟩
   ·rw [hd.env x a b (fun z=>hh ⟨by omega,z.2⟩)];exact k4 x a b fun z=>hh ⟨by omega,z.2⟩
   ·rw [hd.oth p a b (fun z=>hh ⟨by omega,z.2⟩)];exact k5 p a b fun z=>hh ⟨by omega,z.2⟩
   ·by_cases e:i=d
    ·subst e;exact hd.pm.env hx.cx.lv fun y _ _ a b _ _ _ h4=>(hd.env y a b h4).symm
    ·have h3:=(k6 i (by omega) h2).env hx.cx.lv (B:=NT Z) fun y _ _ a b h4 _ _ _=>(hd.env y a b (fun z=>by omega)).symm
     have h4:(fun x=>NT Y x i s.w.length)=fun x=>NT Z x i s.w.length:=by funext x;exact propext (hd.env x i s.w.length (fun z=>e z.1)).symm
     rw [← h4];exact h3
   ·by_cases e:i=d
    ·subst e;exact hd.full p hp'
    ·rw [hd.oth p i s.w.length (fun z=>e z.1),k7 p hp' i (by omega) h2];exact (SeqS_env fun y _ _ a b h4 _ _=>hd.env y.Name a b (fun z=>by omega)).symm
theorem tGrow_spec (K:Nat)(hK:1000000≤K)(s:TS)(hx:TX s)(X:List M0)(hl:X.length=s.w.length)(h:ShT s X)
  (hpm:∀ i k,i≤k→k<s.w.length→PM1 s.g.Names.length s.g.Rules (rd s.xs) (HS (NT X) (wf s.w) i k) fun x=>NT X x i k)
  (hp:∀ p,p<(trip s.g).length→∀ i k,i≤k→k<s.w.length→(RT X p i k↔SeqS (NT X) (wf s.w) (rest s.g p) i k))
  (n:Nat) (hB:n+20000000≤4611686018427387904) :
  ∃ C' n',W5 K (E s X n [])=some (E s C' n' [])∧GoodT s C'∧n≤n'∧n'≤n+(s.w.length+1)*((trip s.g).length*(3*s.w.length+16)):=by
 have q1:=hx.cx.wl;have q2:=hx.pn;have q3:=hx.cx.nl
 let col:M0:=⟨List.replicate s.g.Names.length 0,List.replicate (trip s.g).length 0⟩
 have lt:∀ k,k<s.w.length→rd (X++[col]) (k:Int)=rd X (k:Int):=fun k hk=>rd_app_lt (by omega)
 have at_:rd (X++[col]) (s.w.length:Int)=col:=by rw [← hl];exact rd_app_at
 have out:∀ k,s.w.length<k→rd (X++[col]) (k:Int)=rd X (k:Int):=fun k hk=>by rw [rd_out (by simp;omega),rd_out (by omega)]
 have hcl:∀ k,k≠s.w.length→rd (X++[col]) (k:Int)=rd X (k:Int):=fun k hk=>by
  by_cases e:k<s.w.length
  ·exact lt k e
  ·exact out k (by omega)
 have hns:∀ (x:Int) i k,k≠s.w.length→(NT (X++[col]) x i k↔NT X x i k):=fun x i k hk=>by unfold NT;rw [hcl k hk]
 have hrs:∀ (p:Nat) i k,k≠s.w.length→(RT (X++[col]) p i k↔RT X p i k):=fun x i k hk=>by unfold RT;rw [hcl k hk]
 have rep0:∀ (n m:Nat),rd (List.replicate n (0:Int)) (m:Int)=0:=fun n m=>by
  by_cases e:m<n
  ·exact rd_rep 0 e
  ·rw [rd_out (by simp;omega)];rfl
 have hz:∀ p i,¬ RT (X++[col]) p i s.w.length:=fun p i hh=>by
  unfold RT at hh;rw [at_] at hh;have:rd col.rests (p:Int)=0:=rep0 _ _;rw [this,bit0] at hh;cases hh
 have hn:∀ (x:Int) i,¬ NT (X++[col]) x i s.w.length:=fun x i hh=>by
  rw [NT_nat] at hh;unfold NT at hh;rw [at_] at hh;have:rd col.names (x.toNat:Int)=0:=rep0 _ _;rw [this,bit0] at hh;cases hh
 have hshp:ShT s (X++[col]):=by
  have lk:∀ k,k<(X++[col]).length→k=s.w.length∨k<s.w.length:=fun k hk=>by simp at hk;omega
  refine ⟨fun k hk=>?_,fun k hk x hx'=>?_,fun k hk=>?_,fun k hk p hp'=>?_⟩
  all_goals rcases lk k hk with e|e
  ·rw [e,at_];simp [col]
  ·rw [lt k e];exact h.n1 k (by omega)
  ·rw [e,at_,show rd col.names (x:Int)=0 from rep0 _ _];exact okW0
  ·rw [lt k e];exact h.n2 k (by omega) x hx'
  ·rw [e,at_];simp [col]
  ·rw [lt k e];exact h.r1 k (by omega)
  ·rw [e,at_,show rd col.rests (p:Int)=0 from rep0 _ _];exact okW0
  ·rw [lt k e];exact h.r2 k (by omega) p hp'
 obtain ⟨C',n',k,e1,hg,g1,g2⟩:=tGrow_l0 K hK s hx (X++[col]) hshp (by simp [hl]) (fun i k hik hk=>by
   have h1:=(hpm i k hik hk).env hx.cx.lv (B:=NT (X++[col])) fun y _ _ a b _ _ h3 _=>(hns y a b (by omega)).symm
   have h2:(fun x=>NT X x i k)=fun x=>NT (X++[col]) x i k:=by funext x;exact propext (hns x i k (by omega)).symm
   rw [← h2];exact h1) (fun p hp' i k hik hk=>by
   rw [hrs p i k (by omega),hp p hp' i k hik hk];exact (SeqS_env fun s' _ _ a b _ _ h3=>hns s'.Name a b (by omega)).symm) hz hn n hB
 refine ⟨C',n',?_,hg,g1,g2⟩;unfold W5;rw [if_pos (by show (8:Int)*(s.g.Names.length:Int)≤_;omega),if_pos (by show (8:Int)*(s.pl.length:Int)≤_;rw [hx.pll];omega),if_pos (by show (X.length+1)*48≤_;omega),Option.bind_some];have ec:(⟨List.replicate (s.g.Names.length:Int).toNat (0:Int),List.replicate (s.pl.length:Int).toNat (0:Int)⟩:M0)=col:=by rw [hx.pll,Int.toNat_natCast,Int.toNat_natCast]
 simp only [ec];erw [e1];rfl
def EngT (g:Grammar)(xs w:List Int)(e:y0):Prop:=∃ (s:TS) (C:List M0) (n:Nat),s.g=g∧s.xs=xs∧s.w=w∧e=E s C n []∧TX s∧GoodT s C∧n≤16*(trip g).length*((w.length+1)*(w.length+1)*(w.length+1))
theorem cube (P j n:Nat)(h:n≤16*P*(j*j*j)):n+(j+1)*(P*(3*j+16))≤16*P*((j+1)*(j+1)*(j+1)):=by
 have e:16*P*((j+1)*(j+1)*(j+1))=16*P*(j*j*j)+P*(16*(3*(j*j)+3*j+1)):=by
  have:(j+1)*(j+1)*(j+1)=j*j*j+(3*(j*j)+3*j+1):=by
   simp only [Nat.add_mul,Nat.mul_add,Nat.one_mul,Nat.mul_one];omega
  rw [this,Nat.mul_add,Nat.mul_assoc 16 P (3*(j*j)+3*j+1),Nat.mul_left_comm 16 P]
 have e2:(j+1)*(P*(3*j+16))=P*((j+1)*(3*j+16)):=Nat.mul_left_comm ..;rw [e,e2];have:P*((j+1)*(3*j+16))≤P*(16*(3*(j*j)+3*j+1)):=Nat.mul_le_mul_left _ (by
  have:(j+1)*(3*j+16)=3*(j*j)+19*j+16:=by simp only [Nat.add_mul,Nat.mul_add,Nat.one_mul];rw [Nat.mul_left_comm];omega
  rw [this];omega)
 omega
theorem steps_ok {P j n:Nat}(hP:P≤3072)(hj:j≤33)(h:n≤16*P*(j*j*j)):n≤2000000000:=by
 have h1:j*j≤33*33:=Nat.mul_le_mul hj hj;have h2:j*j*j≤33*33*33:=Nat.mul_le_mul h1 hj;have h3:16*P*(j*j*j)≤16*3072*(33*33*33):=Nat.mul_le_mul (by omega) h2;omega
theorem tFeed_spec (K:Nat)(hK:1000000≤K){g:Grammar}{xs w:List Int}{e:y0}(h:EngT g xs w e)(c:Int) :
  (c<0∨255<c)∧qa K e c=some (1500,e)∨(0≤c∧c≤255)∧w.length=32∧qa K e c=some (1501,e) ∨
  (0≤c∧c≤255)∧w.length<32∧∃ e',qa K e c=some (0,e')∧EngT g xs (w++[c]) e'∧e.steps≤e'.steps:=by
 obtain ⟨s,C,n,rfl,rfl,rfl,rfl,hx,hg,hn⟩:=h;have q1:=hx.cx.wl;unfold qa
 by_cases h1:c<0
 ·rw [if_pos h1];exact .inl ⟨.inl h1,rfl⟩
 ·rw [if_neg h1]
  by_cases h2:255<c
  ·rw [if_pos h2];exact .inl ⟨.inr h2,rfl⟩
  ·rw [if_neg h2]
   by_cases h3:32≤(s.w.length:Int)
   ·rw [if_pos h3];exact .inr (.inl ⟨by omega,by omega,rfl⟩)
   ·rw [if_neg h3];refine .inr (.inr ⟨by omega,by omega,?_⟩);have hw:∀ k,k<s.w.length→wf (s.w++[c]) k=wf s.w k:=fun k hk=>rd_app_lt hk
    have hs':TX ⟨s.g,s.xs,s.most,s.pl,s.bg,s.at_,s.w++[c]⟩:=⟨⟨hx.cx.may,hx.cx.xl,hx.cx.lv,hx.cx.l0,hx.cx.l1,by simp;omega,fun k hk=>by
     by_cases e:k<s.w.length
     ·rw [rd_app_lt e];exact hx.cx.wb k e
     ·have:k=s.w.length:=by simp at hk;omega
      subst this;rw [rd_app_at];omega⟩,hx.m0,hx.ml,hx.pl,hx.b1,hx.b2,hx.b3,hx.at_⟩
    have hn0:=steps_ok hx.pn (by omega) hn;obtain ⟨C',n',et,hg',m1,m2⟩:=tGrow_spec K hK ⟨s.g,s.xs,s.most,s.pl,s.bg,s.at_,s.w++[c]⟩ hs' C (by simp [hg.len]) ⟨hg.shp.n1,hg.shp.n2,hg.shp.r1,hg.shp.r2⟩ (fun i k hik hk=>(hg.pm i k hik (by simp at hk;omega)).wd fun q hq=>(hw q (by simp at hk;omega)).symm) (fun p hp i k hik hk=>by
     rw [hg.full p hp i k hik (by simp at hk;omega)];exact ⟨SeqS_word fun q hq=>(hw q (by simp at hk;omega)).symm,SeqS_word fun q hq=>hw q (by simp at hk;omega)⟩) n (by omega)
    rw [if_pos (by show (s.w.length+1)*1≤_;omega),wb (by omega) (by omega)];erw [et];refine ⟨_,rfl,⟨⟨s.g,s.xs,s.most,s.pl,s.bg,s.at_,s.w++[c]⟩,C',n',rfl,rfl,rfl,rfl,hs',hg',?_⟩,by show (n:Int)≤(n':Int);omega⟩;rw [List.length_append,List.length_singleton] at m2 ⊢;have m2:n'≤n+(s.w.length+1+1)*((trip s.g).length*(3*(s.w.length+1)+16)):=m2;have:=cube (trip s.g).length (s.w.length+1) n hn;omega
theorem tIn_spec (K:Nat){g:Grammar}{xs w:List Int}{e:y0}(h:EngT g xs w e):∃ b,Pa K e=some b∧∃ N,PMs g.Names.length g.Rules (rd xs) (wf w) w.length N∧(b=true↔N g.Start 0 w.length):=by
 obtain ⟨s,C,n,rfl,rfl,rfl,rfl,hx,hg,hn⟩:=h;have hm:=hx.cx.may;have n1:=hg.shp.n1 s.w.length (by rw [hg.len];omega);have hlen:=hg.len;obtain ⟨x,es⟩:∃ x:Nat,s.g.Start=(x:Int):=⟨s.g.Start.toNat,by have:=hm.2.1;omega⟩
 have n2:=hg.shp.n2 s.w.length (by rw [hg.len];omega) x (by have:=hm.2.2.1;omega);unfold Pa;rw [if_pos (by show (s.w.length:Int)<(C.length:Int);omega),if_pos hm.2.1,if_pos (by show s.g.Start<_;rw [n1];exact hm.2.2.1)];refine ⟨_,rfl,NT C,hg.pm,?_⟩;rw [decide_eq_true_eq];show (iand .u64 (rd (rd C (s.w.length:Int)).names s.g.Start) 1)=1↔bit (rd (rd C (s.w.length:Int)).names s.g.Start) 0=true;rw [es,and_one n2];exact iff1 (p:=True) (by decide) _
theorem tLen_spec (K:Nat){g:Grammar}{xs w:List Int}{e:y0}(h:EngT g xs w e):qd K e=some (w.length:Int):=by
 obtain ⟨s,C,n,rfl,rfl,rfl,rfl,_⟩:=h;rfl
end Go.Proofs.YtcoineklodmbnaaGreat

