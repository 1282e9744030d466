import Derived.Test.YtgmnohjaciemmaaW11
namespace Go.Proofs.Ytgmnohjaciemmaa
open S Go.Sort
set_option linter.unusedVariables false
set_option linter.unusedSimpArgs false
set_option maxRecDepth 100000
abbrev headOf (g:Grammar) (p:Place):Int:=(rd g.Rules p.Rule).Head
theorem cl_first {g:Grammar} (hm:mayP g) {s:Int} {p:Place} (h:Cl g (begs g s) p):p.Pos=0∧Reach (refL g) s (headOf g p):=by
 have hbo:okL g (begs g s):=fun p hp=>begs_ok hp
 induction h with
 | base hp =>
  obtain ⟨_,_,h3,_,_,h6⟩:=mem_begs.1 hp
  exact ⟨h6,by show Reach _ _ (rd g.Rules _).Head;rw [h3];exact .refl _⟩
 | @step q p n hq hn hp ih =>
  obtain ⟨_,_,h3,_,_,h6⟩:=mem_begs.1 hp
  obtain ⟨a1,a2,a3,a4,a5,a6⟩:=hq.ok hbo
  refine ⟨h6,?_⟩
  have he:(⟨headOf g q,n,(rd (rd g.Rules q.Rule).Conj q.Conj).Neg⟩:Edge) ∈ refL g:=by
   rw [mem_refL hm]
   refine ⟨_,rd_mem a1 a2,_,rd_mem a3 a4,symAt g q,rd_mem a5 hn.1,?_,?_⟩
   ·rw [hn.2.1];exact hn.2.2
   ·unfold eOf;rw [hn.2.1]
  have:=Reach.step ih.2 he
  show Reach _ _ (rd g.Rules _).Head
  rw [h3];exact this
theorem refL_len (g:Grammar) (hn:g.Names.length≤64):(refL g).length≤8192:=by
 have:∀ l:List Nat,(l.flatMap (refA g g.Names.length)).length≤l.length*128:=by
  intro l
  induction l with
  | nil=>simp
  | cons a l ih =>
   have:=refA_len g g.Names.length a
   rw [List.flatMap_cons,List.length_append,List.length_cons,Nat.add_mul];omega
 have:=this (List.range g.Names.length)
 rw [List.length_range] at this
 unfold refL;omega
theorem needed_spec (K:Nat) (hK:200000≤K) {g:Grammar} (hm:mayP g) {n:Int} (h0:0≤n) (h1:n<(g.Names.length:Int)) (hr:Reach (refL g) g.Start n):W7 K g n=some true:=by
 have hn:=names64 hm
 have hs:=hm.2
 have hl:=refL_len g hn
 obtain ⟨b2,hb2,hbm2⟩:=rMay_spec K (by omega) g
 have:b2=true:=hbm2.2 hm
 subst this
 obtain ⟨q,hq⟩:=refEdges_spec K (by omega) g (may_bd hm) hn
 obtain ⟨r,e1,e2⟩:=RReaches_spec (g.Names.length:Int) (refL g) g.Start n (by omega) K (by omega) (by omega)
 have:r=true:=e2.2 ⟨⟨by omega,by omega,fun e he=>by have:=occ_bounds hm ((mem_refL hm).1 he);exact ⟨⟨this.1,this.2.1⟩,this.2.2⟩⟩,⟨hs.1,hs.2.1⟩,⟨h0,h1⟩,hr⟩
 subst this
 unfold W7 P2
 rw [hb2,Option.bind_some,if_neg (show ¬ (!true)=true by decide),hq,Option.bind_some]
 dsimp only
 rw [Option.bind_some,e1,Option.bind_some]
theorem runs_l2 (K:Nat) (hK:1000000≤K) {g:Grammar} (hg:Bd g) (r:Automaton×Int) {i:Nat} (hp:RL g (rd r.1.States (i:Int))):∃ t,y0.l2 K r i K 1=some (.inl t):=by
 have hl:=hp.len hg
 by_cases h0:(rd r.1.States (i:Int)).length=0
 ·obtain ⟨m,rfl⟩:∃ q,K=q+1:=⟨K-1,by omega⟩
  refine ⟨1,?_⟩
  simp only [y0.l2]
  rw [if_pos (Int.natCast_nonneg i),if_neg (by omega)]
 ·refine ⟨_,scan_from (L:=y0.l2 K r i) 1 (n:=(rd r.1.States (i:Int)).length) (by omega) (by omega) (fun m j h1 hj=>?_) (fun m=>by simp only [y0.l2];rw [if_pos (Int.natCast_nonneg i),if_neg (by omega)])⟩
  have hlt:=rising_rd hp.1 (show j-1<j by omega) hj
  rw [show ((j-1:Nat):Int)=(j:Int)-1 by omega] at hlt
  unfold ltP at hlt
  simp only [y0.l2]
  rw [if_pos (Int.natCast_nonneg i),if_pos (by omega),wr (a:=(j:Int)-1) (by omega) (by omega),wr (a:=(j:Int)+1) (by omega) (by omega),if_pos (by omega),if_pos (by omega),if_pos (Int.natCast_nonneg j),Option.bind_some,if_neg (by omega)]
  by_cases e1:(rd (rd r.1.States (i:Int)) ((j:Int)-1)).Rule=(rd (rd r.1.States (i:Int)) (j:Int)).Rule
  ·rw [if_pos e1,if_neg (by omega)]
   by_cases e2:(rd (rd r.1.States (i:Int)) ((j:Int)-1)).Conj=(rd (rd r.1.States (i:Int)) (j:Int)).Conj
   ·rw [if_pos e2,if_neg (by omega)]
   ·rw [if_neg e2]
  ·rw [if_neg e1]
theorem runs_l3 (K:Nat) (hK:1000000≤K) {g:Grammar} (hg:Bd g) (r:Automaton×Int) {i:Nat} (hi:i<r.1.States.length) (hl:r.1.States.length≤256) (hS:∀ q ∈ r.1.States,RL g q) (hn:r.1.States.Nodup):y0.l3 K r i K 0=some (.inl (i:Int)):=by
 refine scan_from (L:=y0.l3 K r i) 0 (n:=i) (Nat.zero_le _) (by omega) (fun m j _ hj=>?_) (fun m=>by simp only [y0.l3];rw [if_neg (by omega)])
 have hp:RL g (rd r.1.States (i:Int)):=hS _ (mem_rd.2 ⟨i,hi,rfl⟩)
 have hpl:=hp.len hg
 have hne:rd r.1.States (j:Int)≠rd r.1.States (i:Int):=pw_rd hn hj hi
 simp only [y0.l3]
 rw [if_pos (by omega),if_pos (Int.natCast_nonneg i),if_pos (Int.natCast_nonneg j),if_pos (by omega),SamePl_spec K _ _ (by omega) (by omega),Option.bind_some,decide_eq_false (fun e=>hne e.symm),if_neg (by decide),wr (a:=(j:Int)+1) (by omega) (by omega)]
theorem Runs_holds (g:Grammar):∃ K,y0 K g=some true:=by
 refine ⟨KW,?_⟩
 have hK:KW≤KW:=Nat.le_refl _
 have hKW:KW=140737488355328:=rfl
 obtain ⟨b,hbm,h1,h2⟩:=Build_both KW hK g
 unfold y0 m3
 rw [awake13 KW hK,Option.bind_some,if_neg (show ¬ (!true)=true by decide),h1,Option.bind_some,Option.bind_some]
 cases b with
 | false=>rw [if_neg (show ¬ false=true by decide)];rfl
 | true =>
  have hm:=hbm.1 rfl
  have hg:=may_bd hm
  rw [if_pos (show true=true from rfl)]
  cases ha:autOf g with
  | none=>rfl
  | some a =>
   obtain ⟨hl,i,hi,_,h⟩:=aut_AI hm ha
   have hpos:=h.pos
   rw [show resB (some a)=(a,(0:Int)) from rfl,if_neg (show ¬ ((a,(0:Int)).2≠0) from fun x=>x rfl),show (⟨(a,(0:Int)).1.States,(a,(0:Int)).1.Moves⟩:Automaton)=a from rfl,whole_spec KW hK hm hi hl h,Option.bind_some,if_neg (show ¬ (!true)=true by decide)]
   have hp0:RL g (rd a.States 0):=h.rl _ (mem_rd.2 ⟨0,hpos,rfl⟩)
   have hp0l:=hp0.len hg
   have hbo:okL g (begs g g.Start):=fun p hp=>begs_ok hp
   have hbl:=begs_len hg g.Start
   have e0:=scan_from (K:=KW) (L:=y0.l0 KW g (a,0)) 0 (n:=(rd a.States 0).length) (Nat.zero_le _) (by omega) (fun m j _ hj=>by
    have hmem:rd (rd a.States 0) (j:Int) ∈ rd a.States 0:=mem_rd.2 ⟨j,hj,rfl⟩
    have hok:=hp0.2 _ hmem
    have hcl:Cl g (begs g g.Start) (rd (rd a.States 0) (j:Int)):=by
     rw [h.zero] at hmem ⊢
     exact ((clos_is hm hbo (by omega)).2 _).1 hmem
    obtain ⟨f1,f2⟩:=cl_first hm hcl
    have hh:=may_heads hm _ (rd_mem hok.1 hok.2.1)
    simp only [y0.l0]
    rw [if_pos (by omega),if_pos (by omega),if_pos (Int.natCast_nonneg j),if_neg (fun x=>x f1),if_pos hok.1,if_pos hok.2.1,needed_spec KW (by omega) hm hh.1 hh.2.1 f2,Option.bind_some,if_neg (show ¬ (!true)=true by decide),wr (a:=(j:Int)+1) (by omega) (by omega)]) (fun m=>by simp only [y0.l0];rw [if_pos (by omega),if_neg (by omega)])
   have e1:=scan_from (K:=KW) (L:=y0.l1 KW (a,0)) 0 (n:=a.States.length) (Nat.zero_le _) (by omega) (fun m j _ hj=>by
    obtain ⟨t,ht⟩:=runs_l2 KW (by omega) hg (a,0) (i:=j) (h.rl _ (mem_rd.2 ⟨j,hj,rfl⟩))
    simp only [y0.l1]
    rw [if_pos (by omega),ht,brk_l,runs_l3 KW (by omega) hg (a,0) hj hl h.rl h.nd,brk_l,wr (a:=(j:Int)+1) (by omega) (by omega)]) (fun m=>by simp only [y0.l1];rw [if_neg (by omega)])
   rw [show (((0:Nat):Int))=0 from rfl] at e0 e1
   rw [e0,brk_l,e1,brk_l]
   obtain ⟨b2,hb2,hbm2⟩:=rMay_spec KW (by omega) g
   rw [hb2,Option.bind_some,hbm2.2 hm,if_pos rfl,decide_eq_true (show (a.States.length:Int)≤256 by omega)]
end Go.Proofs.Ytgmnohjaciemmaa

