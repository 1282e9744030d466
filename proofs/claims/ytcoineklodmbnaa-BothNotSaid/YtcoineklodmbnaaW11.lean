import Derived.Test.YtcoineklodmbnaaW10
namespace Go.Proofs.Ytcoineklodmbnaa
open S
set_option linter.unusedVariables false
set_option linter.unusedSimpArgs false
abbrev Sp:=Int→Nat→Nat→Prop
def SymS (N:Sp) (w:Nat→Int) (s:Symbol) (i j:Nat):Prop:=if 0≤s.Name then N s.Name i j else j=i+1∧s.Lo≤w i∧w i≤s.Hi
def SeqS (N:Sp) (w:Nat→Int):List Symbol→Nat→Nat→Prop
 | [],i,j=>i=j
 | s::l,i,j=>∃ k,i≤k∧k≤j∧SymS N w s i k∧SeqS N w l k j
def RuleS (N:Sp) (w:Nat→Int) (r:Rule) (i j:Nat):Prop:=∀ c ∈ r.Conj,(c.Neg=true↔¬ SeqS N w c.Seq i j)
theorem SeqS.le {N:Sp} {w:Nat→Int}:∀ {l:List Symbol} {i j:Nat},SeqS N w l i j→i≤j
 | [],i,j,h=>Nat.le_of_eq h
 | s::l,i,j,⟨k,h1,_,_,h⟩=>Nat.le_trans h1 h.le
theorem SeqS_snoc {N:Sp} {w:Nat→Int} {s:Symbol}:∀ {l:List Symbol} {i j:Nat},SeqS N w (l++[s]) i j↔∃ k,i≤k∧k≤j∧SeqS N w l i k∧SymS N w s k j
 | [],i,j=>by
  constructor
  ·rintro ⟨k,h1,h2,h3,h4⟩
   have:k=j:=h4
   subst this
   exact ⟨i,Nat.le_refl _,h1,rfl,h3⟩
  ·rintro ⟨k,h1,h2,h3,h4⟩
   have:i=k:=h3
   subst this
   exact ⟨j,h2,Nat.le_refl _,h4,rfl⟩
 | t::l,i,j=>by
  constructor
  ·rintro ⟨k,h1,h2,h3,h4⟩
   obtain ⟨q,q1,q2,q3,q4⟩:=SeqS_snoc.1 h4
   exact ⟨q,Nat.le_trans h1 q1,q2,⟨k,h1,q1,h3,q3⟩,q4⟩
  ·rintro ⟨q,q1,q2,⟨k,h1,h2,h3,h4⟩,q4⟩
   exact ⟨k,h1,Nat.le_trans h2 q2,h3,SeqS_snoc.2 ⟨q,h2,q2,h4,q4⟩⟩
theorem SymS_mono {A B:Sp} {w:Nat→Int} {s:Symbol} {i j:Nat} (h:0≤s.Name→A s.Name i j→B s.Name i j) (hs:SymS A w s i j):SymS B w s i j:=by
 unfold SymS at hs ⊢
 split at hs
 ·rename_i h0;rw [if_pos h0];exact h h0 hs
 ·rename_i h0;rw [if_neg h0];exact hs
theorem SeqS_mono {A B:Sp} {w:Nat→Int}:∀ {l:List Symbol} {i j:Nat},(∀ s ∈ l,0≤s.Name→∀ a b,i≤a→a≤b→b≤j→A s.Name a b→B s.Name a b)→SeqS A w l i j→SeqS B w l i j
 | [],i,j,_,h=>h
 | s::l,i,j,hm,⟨k,h1,h2,h3,h4⟩=>⟨k,h1,h2,SymS_mono (fun h0=>hm s (List.mem_cons_self ..) h0 i k (Nat.le_refl _) h1 h2) h3,SeqS_mono (fun t ht h0 a b ha hab hb=>hm t (List.mem_cons_of_mem _ ht) h0 a b (Nat.le_trans h1 ha) hab hb) h4⟩
def LvS (n:Nat) (rs:List Rule) (lv:Int→Int):Prop:=∀ r ∈ rs,(0≤r.Head∧r.Head<n)∧∀ c ∈ r.Conj,∀ s ∈ c.Seq,0≤s.Name→s.Name<n∧lv s.Name+(if c.Neg=true then 1 else 0)≤lv r.Head
theorem RuleS_mono {n:Nat} {rs:List Rule} {lv:Int→Int} (hl:LvS n rs lv) {w:Nat→Int} {r:Rule} (hr:r ∈ rs) {A B:Sp} {i j:Nat}
  (h1:∀ y:Int,0≤y→y<n→lv y<lv r.Head→∀ a b,i≤a→a≤b→b≤j→(A y a b↔B y a b)) (h2:∀ y:Int,0≤y→y<n→lv y≤lv r.Head→∀ a b,i≤a→a≤b→b≤j→A y a b→B y a b) (h:RuleS A w r i j):RuleS B w r i j:=by
 intro c hc
 have hs:=(hl r hr).2 c hc
 have hh:=h c hc
 cases hn:c.Neg with
 | true =>
  rw [hn] at hh
  refine ⟨fun _ hb=>hh.1 rfl (SeqS_mono (fun s hm h0 a b ha hab hb'=>?_) hb),fun _=>rfl⟩
  have:=hs s hm h0
  rw [hn] at this
  exact (h1 s.Name h0 this.1 (by simp at this;omega) a b ha hab hb').2
 | false =>
  rw [hn] at hh
  refine ⟨fun e=>(by cases e),fun hb=>?_⟩
  have ha:SeqS A w c.Seq i j:=Classical.byContradiction fun hx=>by cases hh.2 hx
  refine (hb (SeqS_mono (fun s hm h0 a b ha' hab hb'=>?_) ha)).elim
  have:=hs s hm h0
  rw [hn] at this
  exact h2 s.Name h0 this.1 (by simp at this;omega) a b ha' hab hb'
structure Lvl (n:Nat) (rs:List Rule) (lv:Int→Int) (H:(Int→Prop)→Rule→Prop):Prop where
 hd:∀ r ∈ rs,0≤r.Head∧r.Head<n
 mono:∀ r ∈ rs,∀ A B:Int→Prop,(∀ y:Int,0≤y→y<n→lv y<lv r.Head→(A y↔B y))→(∀ y:Int,0≤y→y<n→lv y≤lv r.Head→A y→B y)→H A r→H B r
structure PM1 (n:Nat) (rs:List Rule) (lv:Int→Int) (H:(Int→Prop)→Rule→Prop) (has:Int→Prop):Prop where
 cl:∀ r ∈ rs,H has r→has r.Head
 su:∀ x:Int,0≤x→x<n→has x→∃ r ∈ rs,r.Head=x∧H has r
 mi:∀ (t:Int) (M:Int→Prop),(∀ y:Int,0≤y→y<n→lv y<t→(M y↔has y))→(∀ r ∈ rs,lv r.Head=t→H M r→M r.Head)→∀ y:Int,0≤y→y<n→lv y=t→has y→M y
structure RI (n:Nat) (rs:List Rule) (lv:Int→Int) (H:(Int→Prop)→Rule→Prop) (t:Int) (has:Int→Prop):Prop where
 a:∀ x:Int,0≤x→x<n→has x→lv x≤t
 b:∀ x:Int,0≤x→x<n→has x→∃ r ∈ rs,r.Head=x∧H has r
 c:∀ r ∈ rs,lv r.Head<t→H has r→has r.Head
 d:∀ (t':Int) (M:Int→Prop),(∀ y:Int,0≤y→y<n→lv y<t'→(M y↔has y))→(∀ r ∈ rs,lv r.Head=t'→H M r→M r.Head)→∀ y:Int,0≤y→y<n→lv y=t'→has y→M y
variable {n:Nat} {rs:List Rule} {lv:Int→Int} {H:(Int→Prop)→Rule→Prop}
theorem RI.zero (h0:∀ y:Int,0≤y→y<n→0≤lv y) (hl:Lvl n rs lv H):RI n rs lv H 0 fun _=>False :=
 ⟨fun _ _ _ h=>h.elim,fun _ _ _ h=>h.elim,fun r hr h _=>by have:=h0 r.Head (hl.hd r hr).1 (hl.hd r hr).2;omega,fun _ _ _ _ _ _ _ _ h=>h.elim⟩
theorem RI.put {t:Int} {has:Int→Prop} (hl:Lvl n rs lv H) (h:RI n rs lv H t has) {r:Rule} (hr:r ∈ rs) (ht:lv r.Head=t) (hh:H has r):RI n rs lv H t fun x=>has x∨x=r.Head:=by
 have hd:=hl.hd r hr
 refine ⟨fun x h1 h2 hx=>hx.elim (h.a x h1 h2) (fun e=>by rw [e];omega),fun x h1 h2 hx=>?_,fun q hq hlt hH=>?_,fun t' M hM hc y h1 h2 hy hx=>?_⟩
 ·have up:∀ q ∈ rs,H has q→H (fun x=>has x∨x=r.Head) q∨t≤lv q.Head:=fun q hq hH=>by
   by_cases e:t≤lv q.Head
   ·exact .inr e
   ·refine .inl (hl.mono q hq _ _ (fun y y1 y2 y3=>⟨.inl,fun z=>z.elim id fun e'=>?_⟩) (fun y _ _ _ z=>.inl z) hH)
    rw [e',ht] at y3;omega
  have up2:∀ q ∈ rs,t≤lv q.Head→lv q.Head≤t→H has q→H (fun x=>has x∨x=r.Head) q:=fun q hq h1 h2 hH=>hl.mono q hq _ _ (fun y y1 y2 y3=>⟨.inl,fun z=>z.elim id fun e'=>by rw [e',ht] at y3;omega⟩) (fun y _ _ _ z=>.inl z) hH
  have any:∀ q ∈ rs,lv q.Head≤t→H has q→H (fun x=>has x∨x=r.Head) q:=fun q hq hle hH=>(up q hq hH).elim id fun e=>up2 q hq e hle hH
  rcases hx with hx | hx
  ·obtain ⟨q,hq,e,hH⟩:=h.b x h1 h2 hx
   exact ⟨q,hq,e,any q hq (by rw [e];exact h.a x h1 h2 hx) hH⟩
  ·exact ⟨r,hr,hx.symm,any r hr (by omega) hh⟩
 ·refine .inl (h.c q hq hlt (hl.mono q hq _ _ (fun y y1 y2 y3=>⟨fun z=>z.elim id fun e'=>?_,.inl⟩) (fun y _ _ y3 z=>z.elim id fun e'=>?_) hH))
  ·rw [e',ht] at y3;omega
  ·rw [e',ht] at y3;omega
 ·by_cases e:t<t'
  ·rcases hx with hx | hx
   ·have:=h.a y h1 h2 hx;omega
   ·rw [hx,ht] at hy;omega
  ·have hM':∀ z:Int,0≤z→z<n→lv z<t'→(M z↔has z):=fun z z1 z2 z3=>by
    rw [hM z z1 z2 z3]
    exact ⟨fun q=>q.elim id fun e'=>by rw [e',ht] at z3;omega,.inl⟩
   rcases hx with hx | hx
   ·exact h.d t' M hM' hc y h1 h2 hy hx
   ·subst hx
    have et:t'=t:=by omega
    subst et
    exact hc r hr ht (hl.mono r hr _ _ (fun z z1 z2 z3=>(hM' z z1 z2 (by omega)).symm) (fun z z1 z2 z3 q=>by
     by_cases e3:lv z<t'
     ·exact (hM' z z1 z2 e3).2 q
     ·exact h.d t' M hM' hc z z1 z2 (by omega) q) hh)
theorem RI.puts {t:Int} {has A:Int→Prop} (hl:Lvl n rs lv H) (h:RI n rs lv H t has) (hA:∀ x,A x→∃ r ∈ rs,r.Head=x∧lv x=t∧H has r):RI n rs lv H t fun x=>has x∨A x:=by
 have lo:∀ y:Int,lv y<t→((has y∨A y)↔has y):=fun y hy=>⟨fun z=>z.elim id fun e=>by obtain ⟨r,_,_,h2,_⟩:=hA y e;omega,.inl⟩
 have any:∀ q ∈ rs,lv q.Head≤t→H has q→H (fun x=>has x∨A x) q:=fun q hq hle hH=>hl.mono q hq _ _ (fun y y1 y2 y3=>(lo y (by omega)).symm) (fun y _ _ _ z=>.inl z) hH
 refine ⟨fun x h1 h2 hx=>hx.elim (h.a x h1 h2) (fun e=>by obtain ⟨r,_,_,h3,_⟩:=hA x e;omega),fun x h1 h2 hx=>?_,fun q hq hlt hH=>.inl (h.c q hq hlt (hl.mono q hq _ _ (fun y y1 y2 y3=>lo y (by omega)) (fun y _ _ y3 z=>(lo y (by omega)).1 z) hH)),fun t' M hM hc y h1 h2 hy hx=>?_⟩
 ·rcases hx with hx | hx
  ·obtain ⟨q,hq,e,hH⟩:=h.b x h1 h2 hx
   exact ⟨q,hq,e,any q hq (by rw [e];exact h.a x h1 h2 hx) hH⟩
  ·obtain ⟨r,hr,e,h3,hH⟩:=hA x hx
   exact ⟨r,hr,e,any r hr (by rw [e];omega) hH⟩
 ·by_cases e:t<t'
  ·rcases hx with hx | hx
   ·have:=h.a y h1 h2 hx;omega
   ·obtain ⟨r,_,_,h3,_⟩:=hA y hx;omega
  ·have hM':∀ z:Int,0≤z→z<n→lv z<t'→(M z↔has z):=fun z z1 z2 z3=>by
    rw [hM z z1 z2 z3];exact lo z (by omega)
   rcases hx with hx | hx
   ·exact h.d t' M hM' hc y h1 h2 hy hx
   ·obtain ⟨r,hr,er,h3,hH⟩:=hA y hx
    have et:t'=t:=by omega
    subst et
    subst er
    exact hc r hr h3 (hl.mono r hr _ _ (fun z z1 z2 z3=>(hM' z z1 z2 (by omega)).symm) (fun z z1 z2 z3 q=>by
     by_cases e3:lv z<t'
     ·exact (hM' z z1 z2 e3).2 q
     ·exact h.d t' M hM' hc z z1 z2 (by omega) q) hH)
theorem RI.up {t:Int} {has:Int→Prop} (h:RI n rs lv H t has) (hc:∀ r ∈ rs,lv r.Head=t→H has r→has r.Head):RI n rs lv H (t+1) has :=
 ⟨fun x h1 h2 hx=>by have:=h.a x h1 h2 hx;omega,h.b,fun r hr hlt hH=>by
  by_cases e:lv r.Head<t
  ·exact h.c r hr e hH
  ·exact hc r hr (by omega) hH,h.d⟩
theorem RI.done {t:Int} {has:Int→Prop} (h:RI n rs lv H t has) (hl:Lvl n rs lv H) (ht:∀ y:Int,0≤y→y<n→lv y<t):PM1 n rs lv H has :=
 ⟨fun r hr hH=>h.c r hr (ht _ (hl.hd r hr).1 (hl.hd r hr).2) hH,h.b,h.d⟩
theorem RI_on {t:Int} {A B:Int→Prop} (h:RI n rs lv H t A) (e:∀ y:Int,0≤y→y<n→(B y↔A y)) (hl:Lvl n rs lv H):RI n rs lv H t B:=by
 have up:∀ r ∈ rs,H A r→H B r:=fun r hr hH=>hl.mono r hr A B (fun y y1 y2 _=>(e y y1 y2).symm) (fun y y1 y2 _=>(e y y1 y2).2) hH
 have dn:∀ r ∈ rs,H B r→H A r:=fun r hr hH=>hl.mono r hr B A (fun y y1 y2 _=>e y y1 y2) (fun y y1 y2 _=>(e y y1 y2).1) hH
 exact ⟨fun x h1 h2 hx=>h.a x h1 h2 ((e x h1 h2).1 hx),fun x h1 h2 hx=>let ⟨r,hr,er,hH⟩:=h.b x h1 h2 ((e x h1 h2).1 hx);⟨r,hr,er,up r hr hH⟩,fun r hr hlt hH=>(e _ (hl.hd r hr).1 (hl.hd r hr).2).2 (h.c r hr hlt (dn r hr hH)),
  fun t' M hM hc y h1 h2 hy hx=>h.d t' M (fun y y1 y2 y3=>(hM y y1 y2 y3).trans (e y y1 y2)) hc y h1 h2 hy ((e y h1 h2).1 hx)⟩
theorem RI.congr {t:Int} {A B:Int→Prop} (h:RI n rs lv H t A) (e:A=B):RI n rs lv H t B:=e ▸ h
def upd (N:Sp) (i j:Nat) (M:Int→Prop):Sp:=fun x a b=>if a=i∧b=j then M x else N x a b
theorem upd_self {N:Sp} {i j:Nat}:upd N i j (fun x=>N x i j)=N:=by
 funext x a b
 unfold upd
 split
 ·rename_i h;rw [h.1,h.2]
 ·rfl
def HS (N:Sp) (w:Nat→Int) (i j:Nat) (M:Int→Prop) (r:Rule):Prop:=RuleS (upd N i j M) w r i j
theorem HS_lvl {n:Nat} {rs:List Rule} {lv:Int→Int} (hl:LvS n rs lv) (N:Sp) (w:Nat→Int) (i j:Nat):Lvl n rs lv (HS N w i j) :=
 ⟨fun r hr=>(hl r hr).1,fun r hr A B h1 h2 h=>RuleS_mono hl hr (fun y y1 y2 y3 a b _ _ _=>by
  unfold upd;split
  ·exact h1 y y1 y2 y3
  ·exact Iff.rfl) (fun y y1 y2 y3 a b _ _ _=>by
  unfold upd;split
  ·exact h2 y y1 y2 y3
  ·exact id) h⟩
theorem HS_env {n:Nat} {rs:List Rule} {lv:Int→Int} (hl:LvS n rs lv) {A B:Sp} {w:Nat→Int} {i j:Nat} {M:Int→Prop} {r:Rule} (hr:r ∈ rs) (h:∀ y:Int,0≤y→y<n→∀ a b,i≤a→a≤b→b≤j→¬ (a=i∧b=j)→(A y a b↔B y a b)):HS A w i j M r→HS B w i j M r :=
 RuleS_mono hl hr (fun y y1 y2 _ a b h1 h2 h3=>by
  unfold upd;split
  ·exact Iff.rfl
  ·rename_i e;exact h y y1 y2 a b h1 h2 h3 e) (fun y y1 y2 _ a b h1 h2 h3=>by
  unfold upd;split
  ·exact id
  ·rename_i e;exact (h y y1 y2 a b h1 h2 h3 e).1)
theorem PM1.env {n:Nat} {rs:List Rule} {lv:Int→Int} (hl:LvS n rs lv) {A B:Sp} {w:Nat→Int} {i j:Nat} {has:Int→Prop} (h:∀ y:Int,0≤y→y<n→∀ a b,i≤a→a≤b→b≤j→¬ (a=i∧b=j)→(A y a b↔B y a b)) (hp:PM1 n rs lv (HS A w i j) has):PM1 n rs lv (HS B w i j) has:=by
 have h':∀ y:Int,0≤y→y<n→∀ a b,i≤a→a≤b→b≤j→¬ (a=i∧b=j)→(B y a b↔A y a b):=fun y y1 y2 a b h1 h2 h3 h4=>(h y y1 y2 a b h1 h2 h3 h4).symm
 exact ⟨fun r hr hH=>hp.cl r hr (HS_env hl hr h' hH),fun x x1 x2 hx=>let ⟨r,hr,e,hH⟩:=hp.su x x1 x2 hx;⟨r,hr,e,HS_env hl hr h hH⟩,fun t M hM hc=>hp.mi t M hM fun r hr ht hH=>hc r hr ht (HS_env hl hr h hH)⟩
def PMs (n:Nat) (rs:List Rule) (lv:Int→Int) (w:Nat→Int) (L:Nat) (N:Sp):Prop:=∀ i j,i≤j→j≤L→PM1 n rs lv (HS N w i j) fun x=>N x i j
theorem PMs.cl {n:Nat} {rs:List Rule} {lv:Int→Int} {w:Nat→Int} {L:Nat} {N:Sp} (h:PMs n rs lv w L N) {r:Rule} (hr:r ∈ rs) {i j:Nat} (hij:i≤j) (hj:j≤L) (hR:RuleS N w r i j):N r.Head i j :=
 (h i j hij hj).cl r hr (by unfold HS;rw [upd_self];exact hR)
theorem PMs.su {n:Nat} {rs:List Rule} {lv:Int→Int} {w:Nat→Int} {L:Nat} {N:Sp} (h:PMs n rs lv w L N) {x:Int} (h0:0≤x) (h1:x<n) {i j:Nat} (hij:i≤j) (hj:j≤L) (hx:N x i j):∃ r ∈ rs,r.Head=x∧RuleS N w r i j:=by
 obtain ⟨r,hr,e,hH⟩:=(h i j hij hj).su x h0 h1 hx
 unfold HS at hH;rw [upd_self] at hH
 exact ⟨r,hr,e,hH⟩
theorem PMs.less {n:Nat} {rs:List Rule} {lv:Int→Int} {w:Nat→Int} {L L':Nat} {N:Sp} (h:PMs n rs lv w L N) (hL:L'≤L):PMs n rs lv w L' N:=fun i j hij hj=>h i j hij (Nat.le_trans hj hL)
theorem SeqS_word {N:Sp} {w w':Nat→Int}:∀ {l:List Symbol} {i j:Nat},(∀ k,k<j→w k=w' k)→SeqS N w l i j→SeqS N w' l i j
 | [],i,j,_,h=>h
 | s::l,i,j,hw,⟨k,h1,h2,h3,h4⟩=>⟨k,h1,h2,by
   unfold SymS at h3 ⊢
   split at h3
   ·rename_i e;rw [if_pos e];exact h3
   ·rename_i e;rw [if_neg e,← hw i (by omega)];exact h3,SeqS_word hw h4⟩
theorem RuleS_word {N:Sp} {w w':Nat→Int} {r:Rule} {i j:Nat} (hw:∀ k,k<j→w k=w' k) (h:RuleS N w r i j):RuleS N w' r i j:=fun c hc =>
 (h c hc).trans (not_congr ⟨SeqS_word hw,SeqS_word fun k hk=>(hw k hk).symm⟩)
theorem PMs.congr {n:Nat} {rs:List Rule} {lv:Int→Int} {w:Nat→Int} {L:Nat} {A B:Sp} (h:PMs n rs lv w L A) (e:∀ x i j,i≤j→j≤L→(A x i j↔B x i j)) (hl:LvS n rs lv):PMs n rs lv w L B:=fun i j hij hj=>by
 have h1:=(h i j hij hj).env hl (B:=B) fun y _ _ a b _ h2 h3 _=>e y a b h2 (by omega)
 have h2:(fun x=>A x i j)=fun x=>B x i j:=by funext x;exact propext (e x i j hij hj)
 rw [← h2];exact h1
end Go.Proofs.Ytcoineklodmbnaa

namespace Go.Proofs.Ytcoineklodmbnaa
open S
set_option linter.unusedVariables false
set_option linter.unusedSimpArgs false
def okW (v:Int):Prop:=0≤v∧v<18446744073709551616
def bit (v:Int) (i:Nat):Bool:=v.toNat.testBit i
theorem okW0:okW 0:=⟨by decide,by decide⟩
theorem bit0 (i:Nat):bit 0 i=false:=by simp [bit]
theorem okW_lt {v:Int} (h:okW v):v.toNat<2 ^ 64:=by have:=h.1;have:=h.2;omega
theorem okW_cast {v:Int} (h:okW v):((v.toNat:Nat):Int)=v:=Int.toNat_of_nonneg h.1
theorem shr1 {v:Int} (h:okW v) (i:Nat):iand .u64 (ishr .u64 v (i:Int)) 1=if bit v i=true then 1 else 0:=by
 have:=shr_bit (n:=v.toNat) (j:=i) (okW_lt h)
 rw [okW_cast h] at this
 rw [this];unfold bit;split <;> simp_all
theorem and_one {v:Int} (h:okW v):iand .u64 v 1=if bit v 0=true then 1 else 0:=by
 have:=shr1 h 0
 rw [ishr] at this
 simpa using this
theorem or_ok {v:Int} (h:okW v) {i:Nat} (hi:i<64):okW (ior .u64 v (ishl .u64 1 (i:Int))):=by
 have h1:=ishl_nat hi
 rw [h1,← okW_cast h,ior_nat (okW_lt h) (Nat.pow_lt_pow_right (by decide) hi)]
 have:=Nat.or_lt_two_pow (okW_lt h) (Nat.pow_lt_pow_right (show 1<2 by decide) hi)
 exact ⟨Int.natCast_nonneg _,by omega⟩
theorem or_bit {v:Int} (h:okW v) {i:Nat} (hi:i<64) (k:Nat):bit (ior .u64 v (ishl .u64 1 (i:Int))) k=(bit v k || decide (k=i)):=by
 have h1:=ishl_nat hi
 rw [h1,← okW_cast h,ior_nat (okW_lt h) (Nat.pow_lt_pow_right (by decide) hi)]
 simp only [bit,Int.toNat_natCast,Nat.testBit_or,Nat.testBit_two_pow]
 by_cases e:i=k
 ·subst e;simp
 ·have e':¬ k=i:=fun x=>e x.symm
  simp [e,e']
variable {T:Type} [Inhabited T]
theorem rd_set' {xs:List T} {i:Nat} {x:T} (k:Nat):rd (xs.set i x) (k:Int)=if i=k∧i<xs.length then x else rd xs (k:Int):=by
 by_cases h:i<xs.length
 ·rw [rd_set x h];simp [h]
 ·rw [List.set_eq_of_length_le (by omega)];simp [h]
theorem rd_out {xs:List T} {k:Nat} (h:xs.length≤k):rd xs (k:Int)=default:=by simp [rd,List.getD_eq_getElem?_getD,h]
theorem rd_app_lt {xs ys:List T} {k:Nat} (h:k<xs.length):rd (xs++ys) (k:Int)=rd xs (k:Int):=by simp [rd,List.getD_eq_getElem?_getD,List.getElem?_append_left h]
theorem rd_app_at {xs:List T} {y:T}:rd (xs++[y]) (xs.length:Int)=y:=by simp [rd,List.getD_eq_getElem?_getD]
theorem take_succ_rd {xs:List T} {m:Nat} (h:m<xs.length):xs.take (m+1)=xs.take m++[rd xs (m:Int)]:=by
 rw [List.take_add_one,List.getElem?_eq_getElem h]
 simp [rd,List.getD_eq_getElem?_getD,h]
theorem rd_mem' {xs:List T} {k:Nat} (h:k<xs.length):rd xs (k:Int) ∈ xs:=rd_mem (Int.natCast_nonneg _) (by omega)
theorem mem_rd {xs:List T} {x:T} (h:x ∈ xs):∃ k,k<xs.length∧rd xs (k:Int)=x:=by
 obtain ⟨k,hk,e⟩:=List.getElem_of_mem h
 exact ⟨k,hk,by simp [rd,List.getD_eq_getElem?_getD,hk,e]⟩
end Go.Proofs.Ytcoineklodmbnaa

namespace Go.Proofs.Ytcoineklodmbnaa
open S
set_option linter.unusedVariables false
set_option linter.unusedSimpArgs false
set_option maxRecDepth 10000
abbrev sq (g:Grammar) (r c:Nat):List Symbol:=(rd (rd g.Rules (r:Int)).Conj (c:Int)).Seq
abbrev nc (g:Grammar) (r:Nat):Nat:=(rd g.Rules (r:Int)).Conj.length
abbrev wf (w:List Int):Nat→Int:=fun k=>rd w (k:Int)
structure CX (g:Grammar) (xs w:List Int):Prop where
 may:mayP g
 xl:xs.length=g.Names.length
 lv:LvS g.Names.length g.Rules (rd xs)
 l0:∀ y:Int,0≤y→y<g.Names.length→0≤rd xs y
 l1:∀ y:Int,0≤y→y<g.Names.length→rd xs y≤(g.Names.length:Int)-1
 wl:w.length≤32
 wb:∀ k:Nat,k<w.length→0≤rd w (k:Int)∧rd w (k:Int)<256
theorem CX.nl {g:Grammar} {xs w:List Int} (h:CX g xs w):g.Names.length≤64:=h.may.1.2.1
theorem CX.rl {g:Grammar} {xs w:List Int} (h:CX g xs w):g.Rules.length≤256:=h.may.2.2.2.2.1
theorem CX.cl {g:Grammar} {xs w:List Int} (h:CX g xs w) {r:Nat} (hr:r<g.Rules.length):nc g r≤8:=((may_bd h.may).2 _ (rd_mem' hr)).1
theorem CX.ql {g:Grammar} {xs w:List Int} (h:CX g xs w) {r c:Nat} (hr:r<g.Rules.length) (hc:c<nc g r):(sq g r c).length≤64:=((may_bd h.may).2 _ (rd_mem' hr)).2 _ (rd_mem' hc)
theorem CX.hd {g:Grammar} {xs w:List Int} (h:CX g xs w) {r:Nat} (hr:r<g.Rules.length):0≤(rd g.Rules (r:Int)).Head∧(rd g.Rules (r:Int)).Head<g.Names.length:=(h.lv _ (rd_mem' hr)).1
theorem CX.sy {g:Grammar} {xs w:List Int} (h:CX g xs w) {r c m:Nat} (hr:r<g.Rules.length) (hc:c<nc g r) (hm:m<(sq g r c).length):(rd (sq g r c) (m:Int)).Name<g.Names.length:=by
 by_cases h0:0≤(rd (sq g r c) (m:Int)).Name
 ·exact ((h.lv _ (rd_mem' hr)).2 _ (rd_mem' hc) _ (rd_mem' hm) h0).1
 ·have:=h.may.1.1;omega
theorem iff1 {p:Prop} [Decidable p] {a b:Int} (hab:a≠b) (q:Bool):((if q=true then a else b)=a)↔q=true:=by
 cases q <;> simp [hab.symm]
theorem SeqS_env {A B:Sp} {w:Nat→Int} {l:List Symbol} {i j:Nat} (h:∀ s ∈ l,0≤s.Name→∀ a b,i≤a→a≤b→b≤j→(A s.Name a b↔B s.Name a b)):SeqS A w l i j↔SeqS B w l i j :=
 ⟨SeqS_mono fun s hs h0 a b h1 h2 h3=>(h s hs h0 a b h1 h2 h3).1,SeqS_mono fun s hs h0 a b h1 h2 h3=>(h s hs h0 a b h1 h2 h3).2⟩
theorem rd_map {A B:Type} [Inhabited A] [Inhabited B] {f:A→B} {l:List A} {k:Nat} (h:k<l.length):rd (l.map f) (k:Int)=f (rd l (k:Int)):=by
 simp [rd,List.getD_eq_getElem?_getD,h]
theorem PM1.wd {n:Nat} {rs:List Rule} {lv:Int→Int} {N:Sp} {w w':Nat→Int} {i j:Nat} {has:Int→Prop} (h:PM1 n rs lv (HS N w i j) has) (hw:∀ k,k<j→w k=w' k):PM1 n rs lv (HS N w' i j) has:=by
 have a:∀ {M:Int→Prop} {r:Rule},HS N w i j M r→HS N w' i j M r:=fun hH=>RuleS_word hw hH
 have b:∀ {M:Int→Prop} {r:Rule},HS N w' i j M r→HS N w i j M r:=fun hH=>RuleS_word (fun k hk=>(hw k hk).symm) hH
 exact ⟨fun r hr hH=>h.cl r hr (b hH),fun x x1 x2 hx=>let ⟨r,hr,e,hH⟩:=h.su x x1 x2 hx;⟨r,hr,e,a hH⟩,fun t M hM hc=>h.mi t M hM fun r hr ht hH=>hc r hr ht (a hH)⟩
def wsum (f:Nat→Nat):Nat→Nat
 | 0=>0
 | n+1=>wsum f n+f n
theorem wsum_add (f h:Nat→Nat):∀ n,wsum (fun k=>f k+h k) n=wsum f n+wsum h n
 | 0=>rfl
 | n+1=>by simp only [wsum,wsum_add f h n];omega
theorem wsum_congr {f h:Nat→Nat}:∀ {n},(∀ k,k<n→f k=h k)→wsum f n=wsum h n
 | 0,_=>rfl
 | n+1,e=>by simp only [wsum];rw [wsum_congr fun k hk=>e k (by omega),e n (by omega)]
theorem wsum_le {f h:Nat→Nat}:∀ {n},(∀ k,k<n→f k≤h k)→wsum f n≤wsum h n
 | 0,_=>Nat.le_refl _
 | n+1,e=>by simp only [wsum];have:=wsum_le (n:=n) fun k hk=>e k (by omega);have:=e n (by omega);omega
theorem wsum_const (v:Nat):∀ n,wsum (fun _=>v) n=n*v
 | 0=>by simp [wsum]
 | n+1=>by simp only [wsum,wsum_const v n];rw [Nat.succ_mul]
theorem wsum_upd {f h:Nat→Nat} {a:Nat}:∀ {n},(∀ k,k<n→k≠a→h k=f k)→a<n→wsum h n+f a=wsum f n+h a
 | 0,_,ha=>by omega
 | n+1,e,ha=>by
  simp only [wsum]
  by_cases c:a=n
  ·subst c
   rw [wsum_congr (f:=h) (h:=f) fun k hk=>e k (by omega) (by omega)];omega
  ·have:=wsum_upd (f:=f) (h:=h) (a:=a) (n:=n) (fun k hk hne=>e k (by omega) hne) (by omega)
   have:=e n (by omega) (fun x=>c x.symm)
   omega
theorem wsum_mul (f:Nat→Nat) (v:Nat):∀ n,wsum (fun k=>f k*v) n=wsum f n*v
 | 0=>by simp [wsum]
 | n+1=>by simp only [wsum,wsum_mul f v n];rw [Nat.add_mul]
abbrev P3:=Nat×Nat×Nat
def tripC (r c n:Nat):List P3:=(List.range (n+1)).map fun m=>(r,c,m)
def tripTo (g:Grammar) (r c:Nat):List P3:=(List.range c).flatMap fun c=>tripC r c (sq g r c).length
def tripAll (g:Grammar) (r:Nat):List P3:=(List.range r).flatMap fun r=>tripTo g r (nc g r)
def trip (g:Grammar):List P3:=tripAll g g.Rules.length
theorem tripTo_succ (g:Grammar) (r c:Nat):tripTo g r (c+1)=tripTo g r c++tripC r c (sq g r c).length:=by simp [tripTo,List.range_succ]
theorem tripAll_succ (g:Grammar) (r:Nat):tripAll g (r+1)=tripAll g r++tripTo g r (nc g r):=by simp [tripAll,List.range_succ]
theorem rd_app_ge {T:Type} [Inhabited T] {xs ys:List T} {k:Nat} (h:xs.length≤k):rd (xs++ys) (k:Int)=rd ys ((k-xs.length:Nat):Int):=by
 simp [rd,List.getD_eq_getElem?_getD,List.getElem?_append_right h]
structure Adj (g:Grammar) (T:List P3):Prop where
 ok:∀ p,p<T.length→(rd T (p:Int)).2.2≤(sq g (rd T (p:Int)).1 (rd T (p:Int)).2.1).length
 nx:∀ p,p<T.length→(rd T (p:Int)).2.2<(sq g (rd T (p:Int)).1 (rd T (p:Int)).2.1).length→p+1<T.length∧rd T ((p+1:Nat):Int)=((rd T (p:Int)).1,(rd T (p:Int)).2.1,(rd T (p:Int)).2.2+1)
 pv:∀ p,p<T.length→0<(rd T (p:Int)).2.2→0<p∧rd T ((p-1:Nat):Int)=((rd T (p:Int)).1,(rd T (p:Int)).2.1,(rd T (p:Int)).2.2-1)
theorem Adj.nil (g:Grammar):Adj g []:=⟨fun p h=>by simp at h,fun p h=>by simp at h,fun p h=>by simp at h⟩
theorem Adj.app {g:Grammar} {A B:List P3} (hA:Adj g A) (hB:Adj g B):Adj g (A++B):=by
 have lt:∀ p,p<A.length→rd (A++B) (p:Int)=rd A (p:Int):=fun p h=>rd_app_lt h
 have ge:∀ p,A.length≤p→rd (A++B) (p:Int)=rd B ((p-A.length:Nat):Int):=fun p h=>rd_app_ge h
 refine ⟨fun p hp=>?_,fun p hp hm=>?_,fun p hp hm=>?_⟩
 ·rw [List.length_append] at hp
  by_cases c:p<A.length
  ·rw [lt p c];exact hA.ok p c
  ·rw [ge p (by omega)];exact hB.ok _ (by omega)
 ·rw [List.length_append] at hp ⊢
  by_cases c:p<A.length
  ·rw [lt p c] at hm ⊢
   obtain ⟨h1,h2⟩:=hA.nx p c hm
   exact ⟨by omega,by rw [lt _ h1];exact h2⟩
  ·rw [ge p (by omega)] at hm ⊢
   obtain ⟨h1,h2⟩:=hB.nx _ (by omega) hm
   refine ⟨by omega,?_⟩
   rw [ge _ (by omega),show p+1-A.length=p-A.length+1 by omega];exact h2
 ·rw [List.length_append] at hp
  by_cases c:p<A.length
  ·rw [lt p c] at hm ⊢
   obtain ⟨h1,h2⟩:=hA.pv p c hm
   exact ⟨h1,by rw [lt _ (by omega)];exact h2⟩
  ·rw [ge p (by omega)] at hm ⊢
   obtain ⟨h1,h2⟩:=hB.pv _ (by omega) hm
   refine ⟨by omega,?_⟩
   rw [ge _ (by omega),show p-1-A.length=p-A.length-1 by omega];exact h2
theorem tripC_len (r c n:Nat):(tripC r c n).length=n+1:=by simp [tripC]
theorem tripC_rd {r c n p:Nat} (h:p<n+1):rd (tripC r c n) (p:Int)=(r,c,p):=by
 unfold tripC
 rw [rd_map (by simpa using h)]
 rw [rd_nat,List.getD_eq_getElem?_getD,List.getElem?_range h];rfl
theorem tripC_adj (g:Grammar) (r c:Nat):Adj g (tripC r c (sq g r c).length):=by
 refine ⟨fun p hp=>?_,fun p hp hm=>?_,fun p hp hm=>?_⟩
 all_goals rw [tripC_len] at hp
 ·rw [tripC_rd hp];simp only;omega
 ·rw [tripC_rd hp] at hm ⊢
  simp only at hm
  rw [tripC_len]
  exact ⟨by omega,tripC_rd (by omega)⟩
 ·rw [tripC_rd hp] at hm ⊢
  simp only at hm
  exact ⟨hm,tripC_rd (by omega)⟩
theorem tripTo_adj (g:Grammar) (r:Nat):∀ c,Adj g (tripTo g r c)
 | 0=>Adj.nil g
 | c+1=>by rw [tripTo_succ];exact (tripTo_adj g r c).app (tripC_adj g r c)
theorem tripAll_adj (g:Grammar):∀ r,Adj g (tripAll g r)
 | 0=>Adj.nil g
 | r+1=>by rw [tripAll_succ];exact (tripAll_adj g r).app (tripTo_adj g r _)
theorem tripC_mem {r c n:Nat} {t:P3} (h:t ∈ tripC r c n):t.1=r∧t.2.1=c:=by
 obtain ⟨m,_,rfl⟩:=List.mem_map.1 h;exact ⟨rfl,rfl⟩
theorem tripTo_mem {g:Grammar} {r c:Nat} {t:P3} (h:t ∈ tripTo g r c):t.1=r∧t.2.1<c:=by
 obtain ⟨c',h1,h2⟩:=List.mem_flatMap.1 h
 obtain ⟨e1,e2⟩:=tripC_mem h2
 exact ⟨e1,by rw [e2];exact List.mem_range.1 h1⟩
theorem tripAll_mem {g:Grammar} {r:Nat} {t:P3} (h:t ∈ tripAll g r):t.1<r∧t.2.1<nc g t.1:=by
 obtain ⟨r',h1,h2⟩:=List.mem_flatMap.1 h
 obtain ⟨e1,e2⟩:=tripTo_mem h2
 rw [e1];exact ⟨List.mem_range.1 h1,e2⟩
theorem tripTo_len (g:Grammar) (r c:Nat) (h:c≤nc g r):(tripTo g r c).length=sumC ((rd g.Rules (r:Int)).Conj.take c)+c:=by
 induction c with
 | zero=>simp [tripTo,sumC]
 | succ c ih =>
  rw [tripTo_succ,List.length_append,tripC_len,ih (by omega),take_succ_rd (show c<(rd g.Rules (r:Int)).Conj.length from h)]
  have app:∀ (a:List Conjunct) (x:Conjunct),sumC (a++[x])=sumC a+x.Seq.length:=fun a x=>by
   induction a with
   | nil=>simp [sumC]
   | cons y a ih=>rw [List.cons_append,sumC,sumC,ih];omega
  rw [app]
  show _+((sq g r c).length+1)=_+(sq g r c).length+(c+1)
  omega
theorem tripAll_len (g:Grammar):∀ r,r≤g.Rules.length→(tripAll g r).length=total (g.Rules.take r)+wsum (nc g) r
 | 0,_=>by simp [tripAll,total,wsum]
 | r+1,h=>by
  have app:∀ (a:List Rule) (x:Rule),total (a++[x])=total a+sumR x:=fun a x=>by
   induction a with
   | nil=>simp [total]
   | cons y a ih=>rw [List.cons_append,total,total,ih];omega
  rw [tripAll_succ,List.length_append,tripAll_len g r (by omega),tripTo_len g r _ (Nat.le_refl _),take_succ_rd (show r<g.Rules.length from h),app,List.take_of_length_le (Nat.le_refl _)]
  simp only [wsum]
  show _+(sumC (rd g.Rules (r:Int)).Conj+nc g r)=_+sumC (rd g.Rules (r:Int)).Conj+_
  omega
theorem trip_len {g:Grammar} (hm:mayP g):(trip g).length≤3072:=by
 unfold trip
 rw [tripAll_len g _ (Nat.le_refl _),List.take_of_length_le (Nat.le_refl _)]
 have h1:total g.Rules≤1024:=hm.2.2.2.2.2.2.2
 have h2:g.Rules.length≤256:=hm.2.2.2.2.1
 have h3:wsum (nc g) g.Rules.length≤wsum (fun _=>8) g.Rules.length:=wsum_le fun k hk=>((may_bd hm).2 _ (rd_mem' hk)).1
 rw [wsum_const] at h3
 omega
theorem conj_le (g:Grammar):wsum (nc g) g.Rules.length≤(trip g).length:=by
 unfold trip
 rw [tripAll_len g _ (Nat.le_refl _)];omega
def mkP (g:Grammar) (xs:List Int) (t:P3):W1:=⟨if t.2.2<(sq g t.1 t.2.1).length then rd (sq g t.1 t.2.1) (t.2.2:Int) else ⟨0,0,0⟩,decide ((t.2.2:Int)=((sq g t.1 t.2.1).length:Int)),decide ((t.2.2:Int)=0),(rd (rd g.Rules (t.1:Int)).Conj (t.2.1:Int)).Neg,(t.1:Int),rd xs (rd g.Rules (t.1:Int)).Head⟩
def nmAt (g:Grammar) (t:P3) (x:Nat):Prop:=t.2.2<(sq g t.1 t.2.1).length∧(rd (sq g t.1 t.2.1) (t.2.2:Int)).Name=(x:Int)
structure AtOk (g:Grammar) (T:List P3) (at_:List (List Int)):Prop where
 len:at_.length=g.Names.length
 mem:∀ x:Nat,x<g.Names.length→∀ v:Int,v ∈ rd at_ (x:Int)↔∃ p:Nat,p<T.length∧v=(p:Int)∧nmAt g (rd T (p:Int)) x
 sum:wsum (fun x=>(rd at_ (x:Int)).length) g.Names.length≤T.length
structure TS where
 g:Grammar
 xs:List Int
 most:Int
 pl:List W1
 bg:List (List Int)
 at_:List (List Int)
 w:List Int
abbrev E (s:TS) (C:List J0) (n:Nat) (td:List Int):k0:=⟨s.g,s.xs,s.most,s.pl,s.bg,s.at_,s.w,C,(n:Int),td⟩
abbrev tg (g:Grammar) (p:Nat):P3:=rd (trip g) (p:Int)
abbrev psq (g:Grammar) (p:Nat):List Symbol:=sq g (tg g p).1 (tg g p).2.1
def rest (g:Grammar) (p:Nat):List Symbol:=(psq g p).drop (tg g p).2.2
abbrev plv (s:TS) (p:Nat):Int:=rd s.xs (rd s.g.Rules ((tg s.g p).1:Int)).Head
abbrev png (g:Grammar) (p:Nat):Bool:=(rd (rd g.Rules ((tg g p).1:Int)).Conj ((tg g p).2.1:Int)).Neg
abbrev psy (g:Grammar) (p:Nat):Symbol:=rd (psq g p) ((tg g p).2.2:Int)
structure TX (s:TS):Prop where
 cx:CX s.g s.xs s.w
 m0:0≤s.most∧s.most≤64
 ml:∀ r,r<s.g.Rules.length→rd s.xs (rd s.g.Rules (r:Int)).Head≤s.most
 pl:s.pl=(trip s.g).map (mkP s.g s.xs)
 b1:s.bg.length=s.g.Rules.length
 b2:∀ r,r<s.g.Rules.length→(rd s.bg (r:Int)).length=nc s.g r
 b3:∀ r,r<s.g.Rules.length→∀ c,c<nc s.g r→∃ b:Nat,rd (rd s.bg (r:Int)) (c:Int)=(b:Int)∧b<(trip s.g).length∧tg s.g b=(r,c,0)
 at_:AtOk s.g (trip s.g) s.at_
theorem TX.pn {s:TS} (h:TX s):(trip s.g).length≤3072:=trip_len h.cx.may
theorem TX.pll {s:TS} (h:TX s):s.pl.length=(trip s.g).length:=by rw [h.pl,List.length_map]
theorem TX.plr {s:TS} (h:TX s) {p:Nat} (hp:p<(trip s.g).length):rd s.pl (p:Int)=mkP s.g s.xs (tg s.g p):=by rw [h.pl,rd_map hp]
theorem pg {g:Grammar} {p:Nat} (hp:p<(trip g).length):(tg g p).1<g.Rules.length∧(tg g p).2.1<nc g (tg g p).1:=tripAll_mem (rd_mem' hp)
theorem Gh {g:Grammar} {p:Nat} (hp:p<(trip g).length):(tg g p).2.2≤(psq g p).length:=(tripAll_adj g _).ok p hp
theorem me {g:Grammar} {p:Nat} (hp:p<(trip g).length) (hm:(tg g p).2.2<(psq g p).length):p+1<(trip g).length∧tg g (p+1)=((tg g p).1,(tg g p).2.1,(tg g p).2.2+1):=(tripAll_adj g _).nx p hp hm
theorem yh {g:Grammar} {p:Nat} (hp:p<(trip g).length) (hm:0<(tg g p).2.2):0<p∧tg g (p-1)=((tg g p).1,(tg g p).2.1,(tg g p).2.2-1):=(tripAll_adj g _).pv p hp hm
theorem rest_last {g:Grammar} {p:Nat} (h:(tg g p).2.2=(psq g p).length):rest g p=[]:=by unfold rest;rw [h];exact List.drop_length
theorem rest_next {g:Grammar} {p:Nat} (hp:p<(trip g).length) (h:(tg g p).2.2<(psq g p).length):rest g p=psy g p::rest g (p+1):=by
 unfold rest
 have e:psq g (p+1)=psq g p:=by show sq g (tg g (p+1)).1 (tg g (p+1)).2.1=_;rw [(me hp h).2]
 rw [e,(me hp h).2,List.drop_eq_getElem_cons h]
 congr 1
 show _=rd (psq g p) ((tg g p).2.2:Int)
 rw [rd_nat,List.getD_eq_getElem?_getD,List.getElem?_eq_getElem h];rfl
theorem rest_sub {g:Grammar} {p:Nat} {y:Symbol} (h:y ∈ rest g p):y ∈ psq g p:=List.mem_of_mem_drop h
def NT (C:List J0):Sp:=fun x i k=>bit (rd (rd C (k:Int)).names x) i=true
def RT (C:List J0) (p i k:Nat):Prop:=bit (rd (rd C (k:Int)).rests (p:Int)) i=true
structure ShT (s:TS) (C:List J0):Prop where
 n1:∀ k,k<C.length→(rd C (k:Int)).names.length=s.g.Names.length
 n2:∀ k,k<C.length→∀ x:Nat,x<s.g.Names.length→okW (rd (rd C (k:Int)).names (x:Int))
 r1:∀ k,k<C.length→(rd C (k:Int)).rests.length=(trip s.g).length
 r2:∀ k,k<C.length→∀ p:Nat,p<(trip s.g).length→okW (rd (rd C (k:Int)).rests (p:Int))
def setR (C:List J0) (j p:Nat) (v:Int):List J0:=C.set j ⟨(rd C (j:Int)).names,(rd C (j:Int)).rests.set p v⟩
def setM (C:List J0) (j x:Nat) (v:Int):List J0:=C.set j ⟨(rd C (j:Int)).names.set x v,(rd C (j:Int)).rests⟩
theorem setR_len (C:List J0) (j p:Nat) (v:Int):(setR C j p v).length=C.length:=by simp [setR]
theorem setM_len (C:List J0) (j p:Nat) (v:Int):(setM C j p v).length=C.length:=by simp [setM]
theorem setR_nm (C:List J0) (j p:Nat) (v:Int) (k:Nat):(rd (setR C j p v) (k:Int)).names=(rd C (k:Int)).names:=by
 unfold setR;rw [rd_set']
 split
 ·rename_i h;rw [← h.1]
 ·rfl
theorem setM_rs (C:List J0) (j p:Nat) (v:Int) (k:Nat):(rd (setM C j p v) (k:Int)).rests=(rd C (k:Int)).rests:=by
 unfold setM;rw [rd_set']
 split
 ·rename_i h;rw [← h.1]
 ·rfl
theorem setR_NT (C:List J0) (j p:Nat) (v:Int):NT (setR C j p v)=NT C:=by
 funext x i k;unfold NT;rw [setR_nm]
theorem setM_RT (C:List J0) (j x:Nat) (v:Int) (p i k:Nat):RT (setM C j x v) p i k↔RT C p i k:=by unfold RT;rw [setM_rs]
theorem setR_shp {s:TS} {C:List J0} (h:ShT s C) {j p:Nat} {v:Int} (hj:j<C.length) (hv:okW v):ShT s (setR C j p v):=by
 refine ⟨fun k hk=>?_,fun k hk x hx=>?_,fun k hk=>?_,fun k hk q hq=>?_⟩
 all_goals rw [setR_len] at hk
 ·rw [setR_nm];exact h.n1 k hk
 ·rw [setR_nm];exact h.n2 k hk x hx
 ·unfold setR;rw [rd_set']
  split
  ·simp only [List.length_set];exact h.r1 j hj
  ·exact h.r1 k hk
 ·unfold setR;rw [rd_set']
  split
  ·simp only [rd_set']
   split
   ·exact hv
   ·exact h.r2 j hj q hq
  ·exact h.r2 k hk q hq
theorem setM_shp {s:TS} {C:List J0} (h:ShT s C) {j p:Nat} {v:Int} (hj:j<C.length) (hv:okW v):ShT s (setM C j p v):=by
 refine ⟨fun k hk=>?_,fun k hk q hq=>?_,fun k hk=>?_,fun k hk x hx=>?_⟩
 all_goals rw [setM_len] at hk
 ·unfold setM;rw [rd_set']
  split
  ·simp only [List.length_set];exact h.n1 j hj
  ·exact h.n1 k hk
 ·unfold setM;rw [rd_set']
  split
  ·simp only [rd_set']
   split
   ·exact hv
   ·exact h.n2 j hj q hq
  ·exact h.n2 k hk q hq
 ·rw [setM_rs];exact h.r1 k hk
 ·rw [setM_rs];exact h.r2 k hk x hx
theorem setR_bit {s:TS} {C:List J0} (h:ShT s C) {j p i:Nat} (hj:j<C.length) (hp:p<(trip s.g).length) (hi:i<64) (q i' k:Nat) :
  bit (rd (rd (setR C j p (ior .u64 (rd (rd C (j:Int)).rests (p:Int)) (ishl .u64 1 (i:Int)))) (k:Int)).rests (q:Int)) i'=(bit (rd (rd C (k:Int)).rests (q:Int)) i' || decide (k=j∧q=p∧i'=i)):=by
 unfold setR
 rw [rd_set']
 by_cases e:j=k
 ·subst e
  rw [if_pos ⟨rfl,hj⟩]
  show bit (rd (List.set _ _ _) _) _=_
  rw [rd_set']
  by_cases e2:p=q
  ·subst e2
   rw [if_pos ⟨rfl,by rw [h.r1 j hj];exact hp⟩,or_bit (h.r2 j hj p hp) hi]
   simp
  ·rw [if_neg (fun z=>e2 z.1),decide_eq_false (fun z=>e2 z.2.1.symm),Bool.or_false]
 ·rw [if_neg (fun z=>e z.1),decide_eq_false (fun z=>e z.1.symm),Bool.or_false]
theorem setM_bit {s:TS} {C:List J0} (h:ShT s C) {j p i:Nat} (hj:j<C.length) (hp:p<s.g.Names.length) (hi:i<64) (q i' k:Nat) :
  bit (rd (rd (setM C j p (ior .u64 (rd (rd C (j:Int)).names (p:Int)) (ishl .u64 1 (i:Int)))) (k:Int)).names (q:Int)) i'=(bit (rd (rd C (k:Int)).names (q:Int)) i' || decide (k=j∧q=p∧i'=i)):=by
 unfold setM
 rw [rd_set']
 by_cases e:j=k
 ·subst e
  rw [if_pos ⟨rfl,hj⟩]
  show bit (rd (List.set _ _ _) _) _=_
  rw [rd_set']
  by_cases e2:p=q
  ·subst e2
   rw [if_pos ⟨rfl,by rw [h.n1 j hj];exact hp⟩,or_bit (h.n2 j hj p hp) hi]
   simp
  ·rw [if_neg (fun z=>e2 z.1),decide_eq_false (fun z=>e2 z.2.1.symm),Bool.or_false]
 ·rw [if_neg (fun z=>e z.1),decide_eq_false (fun z=>e z.1.symm),Bool.or_false]
theorem setR_RT {s:TS} {C:List J0} (h:ShT s C) {j p i:Nat} (hj:j<C.length) (hp:p<(trip s.g).length) (hi:i<64) (q i' k:Nat) :
  RT (setR C j p (ior .u64 (rd (rd C (j:Int)).rests (p:Int)) (ishl .u64 1 (i:Int)))) q i' k↔RT C q i' k∨(k=j∧q=p∧i'=i):=by
 unfold RT;rw [setR_bit h hj hp hi,Bool.or_eq_true,decide_eq_true_eq]
theorem NT_nat (C:List J0) (x:Int):NT C x=NT C (x.toNat:Int):=by
 by_cases h0:0≤x
 ·rw [Int.toNat_of_nonneg h0]
 ·have e:∀ k:Nat,rd (rd C (k:Int)).names x=rd (rd C (k:Int)).names (x.toNat:Int):=fun k=>by simp only [rd,Int.toNat_natCast]
  funext a b;unfold NT;rw [e]
theorem setM_NT {s:TS} {C:List J0} (h:ShT s C) {j p i:Nat} (hj:j<C.length) (hp:p<s.g.Names.length) (hi:i<64) (q:Int) (i' k:Nat) :
  NT (setM C j p (ior .u64 (rd (rd C (j:Int)).names (p:Int)) (ishl .u64 1 (i:Int)))) q i' k↔NT C q i' k∨(k=j∧q.toNat=p∧i'=i):=by
 rw [NT_nat,NT_nat C q]
 unfold NT;rw [setM_bit h hj hp hi,Bool.or_eq_true,decide_eq_true_eq]
def Stp (s:TS) (C:List J0) (p i j:Nat):Prop :=
 ((tg s.g p).2.2=(psq s.g p).length∧i=j)∨((tg s.g p).2.2<(psq s.g p).length∧∃ k,i≤k∧k≤j∧SymS (NT C) (wf s.w) (psy s.g p) i k∧RT C (p+1) k j)
theorem tHolds_spec (K:Nat) (hK:1000000≤K) (s:TS) (hx:TX s) (C:List J0) (h:ShT s C) (hl:C.length=s.w.length+1) (n:Nat) (td:List Int) (p i:Nat) (hp:p<(trip s.g).length) (hi:i≤s.w.length) (hn:n+64≤4611686018427387904) :
  ∃ b n',V5 K (E s C n td) p i=some (b,E s C n' td)∧(b=true↔Stp s C p i s.w.length)∧n≤n'∧n'≤n+(s.w.length-i+2):=by
 have q1:=hx.cx.wl
 have q2:=hx.pn
 have hr:=pg hp
 have hm:=Gh hp
 have q4:=hx.cx.ql hr.1 hr.2
 have epl:=hx.plr hp
 have e1:IntKind.wrap .i64 ((n:Int)+1)=((n+1:Nat):Int):=by rw [wr (by omega) (by omega)];omega
 have e2:IntKind.wrap .i64 ((p:Int)+1)=((p+1:Nat):Int):=by rw [wr (by omega) (by omega)];omega
 unfold V5
 rw [if_pos (by omega),if_pos (by show (p:Int)<(s.pl.length:Int);rw [hx.pll];omega)]
 simp only [epl,mkP,e1,e2]
 by_cases hlast:(tg s.g p).2.2=(psq s.g p).length
 ·rw [if_pos (by rw [decide_eq_true_eq];show (((tg s.g p).2.2:Nat):Int)=((psq s.g p).length:Int);omega)]
  refine ⟨_,n+1,rfl,?_,by omega,by omega⟩
  rw [decide_eq_true_eq]
  constructor
  ·intro e;exact .inl ⟨hlast,by omega⟩
  ·rintro (⟨_,e⟩ | ⟨e,_⟩)
   ·omega
   ·omega
 ·have hlt:(tg s.g p).2.2<(psq s.g p).length:=by omega
  obtain ⟨hp1,_⟩:=me hp hlt
  have stp:Stp s C p i s.w.length↔∃ k,i≤k∧k≤s.w.length∧SymS (NT C) (wf s.w) (psy s.g p) i k∧RT C (p+1) k s.w.length:=by
   constructor
   ·rintro (⟨e,_⟩ | ⟨_,hh⟩)
    ·exact (hlast e).elim
    ·exact hh
   ·intro hh;exact .inr ⟨hlt,hh⟩
  have r1:=h.r1 s.w.length (by omega)
  have r2:=h.r2 s.w.length (by omega) (p+1) hp1
  have esy:(if (tg s.g p).2.2<(sq s.g (tg s.g p).1 (tg s.g p).2.1).length then rd (sq s.g (tg s.g p).1 (tg s.g p).2.1) ((tg s.g p).2.2:Int) else ⟨0,0,0⟩)=psy s.g p:=if_pos hlt
  rw [if_neg (by rw [decide_eq_true_eq];show ¬ (((tg s.g p).2.2:Nat):Int)=((psq s.g p).length:Int);omega)]
  simp only [esy]
  by_cases hn0:(psy s.g p).Name<0
  ·rw [if_pos hn0]
   have hS:∀ k,SymS (NT C) (wf s.w) (psy s.g p) i k↔(k=i+1∧(psy s.g p).Lo≤rd s.w (i:Int)∧rd s.w (i:Int)≤(psy s.g p).Hi):=fun k=>by unfold SymS;rw [if_neg (by omega)]
   by_cases hlt2:(i:Int)<(s.w.length:Int)
   ·have hb:=hx.cx.wb i (by omega)
    rw [if_pos hlt2,if_pos (by omega),wr (a:=rd s.w (i:Int)) (by omega) (by omega)]
    by_cases h1:(psy s.g p).Lo≤rd s.w (i:Int)
    ·rw [if_pos h1]
     by_cases h2:rd s.w (i:Int)≤(psy s.g p).Hi
     ·have e3:IntKind.wrap .i64 ((i:Int)+1)=((i+1:Nat):Int):=by rw [wr (by omega) (by omega)];omega
      rw [if_pos h2,if_pos (by show (s.w.length:Int)<(C.length:Int);omega),if_pos (by omega),if_pos (by show ((p+1:Nat):Int)<((rd C (s.w.length:Int)).rests.length:Int);rw [r1];omega),e3,if_pos (by omega),Option.bind_some]
      refine ⟨_,n+1,rfl,?_,by omega,by omega⟩
      rw [shr1 r2 (i+1),decide_eq_true_eq,iff1 (p:=True) (by decide),stp]
      constructor
      ·intro hbit;exact ⟨i+1,by omega,by omega,(hS _).2 ⟨rfl,h1,h2⟩,hbit⟩
      ·rintro ⟨k,k1,k2,k3,k4⟩
       have:=((hS k).1 k3).1
       subst this;exact k4
     ·rw [if_neg h2,Option.bind_some]
      refine ⟨_,n+1,rfl,?_,by omega,by omega⟩
      rw [stp]
      exact ⟨fun e=>(by cases e),fun ⟨k,k1,k2,k3,k4⟩=>(h2 ((hS k).1 k3).2.2).elim⟩
    ·rw [if_neg h1,Option.bind_some]
     refine ⟨_,n+1,rfl,?_,by omega,by omega⟩
     rw [stp]
     exact ⟨fun e=>(by cases e),fun ⟨k,k1,k2,k3,k4⟩=>(h1 ((hS k).1 k3).2.1).elim⟩
   ·rw [if_neg hlt2,Option.bind_some]
    refine ⟨_,n+1,rfl,?_,by omega,by omega⟩
    rw [stp]
    exact ⟨fun e=>(by cases e),fun ⟨k,k1,k2,k3,k4⟩=>by have:=((hS k).1 k3).1;omega⟩
  ·rw [if_neg hn0,if_pos (by show (s.w.length:Int)<(C.length:Int);omega),if_pos (by omega),if_pos (by show ((p+1:Nat):Int)<((rd C (s.w.length:Int)).rests.length:Int);rw [r1];omega)]
   have hnm:(psy s.g p).Name<(s.g.Names.length:Int):=hx.cx.sy hr.1 hr.2 hlt
   have hS:∀ k,SymS (NT C) (wf s.w) (psy s.g p) i k↔NT C (psy s.g p).Name i k:=fun k=>by unfold SymS;rw [if_pos (by omega)]
   have key:=rounds (σ:=Int×Int) (ρ:=(Int×Int) ⊕ (Bool×k0)) (L:=V5.l0 K (E s C n td) p i)
    (fun z=>∃ c k:Nat,z=((c:Int),(k:Int))∧i≤k∧k≤s.w.length+1∧c=n+1+(k-i)∧∀ q,i≤q→q<k→¬ (NT C (psy s.g p).Name i q∧RT C (p+1) q s.w.length))
    (fun z=>s.w.length+1-z.2.toNat)
    (fun ρ=>(∃ c:Nat,ρ = .inr (true,E s C c td)∧n≤c∧c≤n+(s.w.length-i+2)∧∃ q,i≤q∧q≤s.w.length∧NT C (psy s.g p).Name i q∧RT C (p+1) q s.w.length) ∨
     (∃ c k:Nat,ρ = .inl ((c:Int),(k:Int))∧n≤c∧c≤n+(s.w.length-i+2)∧∀ q,i≤q→q≤s.w.length→¬ (NT C (psy s.g p).Name i q∧RT C (p+1) q s.w.length))) ?_ K (((n+1:Nat):Int),(i:Int)) ⟨n+1,i,rfl,Nat.le_refl _,by omega,by omega,fun q _ _=>by omega⟩ (by simp;omega)
   ·obtain ⟨ρ,e3,hρ⟩:=key
    erw [e3]
    rcases hρ with ⟨c,rfl,c1,c2,q,g1,g2,g3,g4⟩ | ⟨c,k,rfl,c1,c2,c3⟩
    ·exact ⟨true,c,rfl,⟨fun _=>stp.2 ⟨q,g1,g2,(hS q).2 g3,g4⟩,fun _=>rfl⟩,c1,c2⟩
    ·refine ⟨false,c,rfl,⟨fun e=>(by cases e),fun hh=>?_⟩,c1,c2⟩
     obtain ⟨q,g1,g2,g3,g4⟩:=stp.1 hh
     exact (c3 q g1 g2 ⟨(hS q).1 g3,g4⟩).elim
   ·rintro z mm ⟨c,k,rfl,k1,k2,k3,k4⟩
    simp only [V5.l0]
    by_cases hk:k≤s.w.length
    ·have n1:=h.n1 k (by omega)
     obtain ⟨y,ey⟩:∃ y:Nat,(psy s.g p).Name=(y:Int):=⟨(psy s.g p).Name.toNat,by omega⟩
     have hy:y<s.g.Names.length:=by rw [ey] at hnm;omega
     have n2:=h.n2 k (by omega) y hy
     have e3:IntKind.wrap .i64 ((c:Int)+1)=((c+1:Nat):Int):=by rw [wr (by omega) (by omega)];omega
     have e4:IntKind.wrap .i64 ((k:Int)+1)=((k+1:Nat):Int):=by rw [wr (by omega) (by omega)];omega
     simp only [epl,mkP,e2,e3,e4,esy]
     rw [if_pos (by omega),if_pos (by omega),if_pos (by show (k:Int)<(C.length:Int);omega),if_pos (by omega),if_pos (by rw [n1];omega),if_pos (by omega),ey,shr1 n2 i,shr1 r2 k]
     by_cases b1:bit (rd (rd C (k:Int)).names (y:Int)) i=true
     ·rw [if_pos b1,if_pos rfl]
      by_cases b2:bit (rd (rd C (s.w.length:Int)).rests ((p+1:Nat):Int)) k=true
      ·rw [if_pos b2,if_pos rfl]
       exact .inl ⟨_,rfl,.inl ⟨c+1,rfl,by omega,by omega,k,k1,hk,b1,b2⟩⟩
      ·rw [if_neg b2,if_neg (by decide)]
       refine .inr ⟨_,⟨c+1,k+1,rfl,by omega,by omega,by omega,fun q g1 g2=>?_⟩,by simp;omega,rfl⟩
       by_cases eq:q=k
       ·subst eq;exact fun hh=>b2 hh.2
       ·rw [← ey];exact k4 q g1 (by omega)
     ·rw [if_neg b1,if_neg (by decide)]
      refine .inr ⟨_,⟨c+1,k+1,rfl,by omega,by omega,by omega,fun q g1 g2=>?_⟩,by simp;omega,rfl⟩
      by_cases eq:q=k
      ·subst eq;exact fun hh=>b1 hh.1
      ·rw [← ey];exact k4 q g1 (by omega)
    ·rw [if_neg (by omega)]
     exact .inl ⟨_,rfl,.inr ⟨c,k,rfl,by omega,by omega,fun q g1 g2=>k4 q g1 (by omega)⟩⟩
abbrev lkL (s:TS) (i:Nat):Nat:=s.w.length-i+2
def Psi (s:TS) (C:List J0) (td:List Int) (i:Nat):Nat :=
 lkL s i*td.length+wsum (fun p=>if bit (rd (rd C (s.w.length:Int)).rests (p:Int)) i=true then 0 else lkL s i+8) (trip s.g).length +
  wsum (fun x=>if bit (rd (rd C (s.w.length:Int)).names (x:Int)) i=true then 0 else (rd s.at_ (x:Int)).length*(lkL s i+1)) s.g.Names.length
theorem Psi_td (s:TS) (C:List J0) (td:List Int) (i:Nat):2*td.length≤Psi s C td i:=by
 unfold Psi
 have:2*td.length≤lkL s i*td.length:=Nat.mul_le_mul_right _ (by show 2≤s.w.length-i+2;omega)
 omega
theorem Psi_setR {s:TS} {C:List J0} (h:ShT s C) (hl:C.length=s.w.length+1) {p i:Nat} (hp:p<(trip s.g).length) (hi:i<64) (hb:¬ RT C p i s.w.length) (td:List Int) :
  Psi s (setR C s.w.length p (ior .u64 (rd (rd C (s.w.length:Int)).rests (p:Int)) (ishl .u64 1 (i:Int)))) td i+(lkL s i+8)=Psi s C td i:=by
 unfold Psi
 simp only [setR_nm]
 have hb':bit (rd (rd C (s.w.length:Int)).rests (p:Int)) i=false:=by unfold RT at hb;simpa using hb
 have e:=wsum_upd (f:=fun q=>if bit (rd (rd C (s.w.length:Int)).rests (q:Int)) i=true then 0 else lkL s i+8) (h:=fun q=>if bit (rd (rd (setR C s.w.length p (ior .u64 (rd (rd C (s.w.length:Int)).rests (p:Int)) (ishl .u64 1 (i:Int)))) (s.w.length:Int)).rests (q:Int)) i=true then 0 else lkL s i+8) (a:=p) (n:=(trip s.g).length) (fun k _ hne=>by
  rw [setR_bit h (by omega) hp hi,decide_eq_false (fun z=>hne z.2.1),Bool.or_false]) hp
 simp only [hb'] at e
 rw [setR_bit h (by omega) hp hi] at e
 simp only [hb',decide_eq_true (show s.w.length=s.w.length∧p=p∧i=i from ⟨rfl,rfl,rfl⟩),Bool.or_true,if_true] at e
 simp at e
 omega
theorem Psi_setM {s:TS} {C:List J0} (h:ShT s C) (hl:C.length=s.w.length+1) {x i:Nat} (hx:x<s.g.Names.length) (hi:i<64) (hb:¬ bit (rd (rd C (s.w.length:Int)).names (x:Int)) i=true) (td td':List Int) (hd:td'.length≤td.length+(rd s.at_ (x:Int)).length) :
  Psi s (setM C s.w.length x (ior .u64 (rd (rd C (s.w.length:Int)).names (x:Int)) (ishl .u64 1 (i:Int)))) td' i+(rd s.at_ (x:Int)).length≤Psi s C td i:=by
 unfold Psi
 simp only [setM_rs]
 have hb':bit (rd (rd C (s.w.length:Int)).names (x:Int)) i=false:=by simpa using hb
 have e:=wsum_upd (f:=fun q=>if bit (rd (rd C (s.w.length:Int)).names (q:Int)) i=true then 0 else (rd s.at_ (q:Int)).length*(lkL s i+1)) (h:=fun q=>if bit (rd (rd (setM C s.w.length x (ior .u64 (rd (rd C (s.w.length:Int)).names (x:Int)) (ishl .u64 1 (i:Int)))) (s.w.length:Int)).names (q:Int)) i=true then 0 else (rd s.at_ (q:Int)).length*(lkL s i+1)) (a:=x) (n:=s.g.Names.length) (fun k _ hne=>by
  rw [setM_bit h (by omega) hx hi,decide_eq_false (fun z=>hne z.2.1),Bool.or_false]) hx
 simp only [hb'] at e
 rw [setM_bit h (by omega) hx hi] at e
 simp only [hb',decide_eq_true (show s.w.length=s.w.length∧x=x∧i=i from ⟨rfl,rfl,rfl⟩),Bool.or_true,if_true] at e
 simp at e
 have m1:lkL s i*td'.length≤lkL s i*td.length+lkL s i*(rd s.at_ (x:Int)).length:=by
  rw [← Nat.mul_add];exact Nat.mul_le_mul_left _ hd
 have m2:(rd s.at_ (x:Int)).length*(lkL s i+1)=lkL s i*(rd s.at_ (x:Int)).length+(rd s.at_ (x:Int)).length:=by rw [Nat.mul_add,Nat.mul_comm,Nat.mul_one]
 omega
def Act (s:TS) (t:Int) (ng:Bool) (p:Nat):Prop:=p<(trip s.g).length∧plv s p=t∧png s.g p=ng
def bgn (s:TS) (r c:Nat):Nat:=(rd (rd s.bg (r:Int)) (c:Int)).toNat
theorem bgn_ok {s:TS} (hx:TX s) {r c:Nat} (hr:r<s.g.Rules.length) (hc:c<nc s.g r):rd (rd s.bg (r:Int)) (c:Int)=(bgn s r c:Int)∧bgn s r c<(trip s.g).length∧tg s.g (bgn s r c)=(r,c,0):=by
 obtain ⟨b,h1,h2,h3⟩:=hx.b3 r hr c hc
 have:bgn s r c=b:=by unfold bgn;rw [h1,Int.toNat_natCast]
 rw [this];exact ⟨h1,h2,h3⟩
theorem bgn_rest {s:TS} (hx:TX s) {r c:Nat} (hr:r<s.g.Rules.length) (hc:c<nc s.g r):rest s.g (bgn s r c)=sq s.g r c:=by
 unfold rest psq
 rw [(bgn_ok hx hr hc).2.2];rfl
def CB (s:TS) (C:List J0) (i j r:Nat):Prop:=∀ c,c<nc s.g r→((rd (rd s.g.Rules (r:Int)).Conj (c:Int)).Neg=true↔¬ RT C (bgn s r c) i j)
structure Wk (s:TS) (X0 C0:List J0) (i:Nat) (t:Int) (ng:Bool) (V D:Nat→Prop) (C:List J0) (td:List Int):Prop where
 shp:ShT s C
 len:C.length=s.w.length+1
 env:∀ x a b,¬ (a=i∧b=s.w.length)→(NT C x a b↔NT X0 x a b)
 low:∀ x:Int,0≤x→rd s.xs x≠t→∀ a b,NT C x a b↔NT C0 x a b
 nms:ng=true→NT C=NT C0
 oth:∀ p a b,¬ (a=i∧b=s.w.length∧Act s t ng p)→(RT C p a b↔RT C0 p a b)
 ri:RI s.g.Names.length s.g.Rules (rd s.xs) (HS (NT X0) (wf s.w) i s.w.length) t fun x=>NT C x i s.w.length
 snd:∀ p,Act s t ng p→RT C p i s.w.length→SeqS (NT C) (wf s.w) (rest s.g p) i s.w.length
 cpl:∀ p,Act s t ng p→V p→Stp s C p i s.w.length→RT C p i s.w.length∨(p:Int) ∈ td
 rul:ng=false→∀ r,D r→r<s.g.Rules.length→rd s.xs (rd s.g.Rules (r:Int)).Head=t→CB s C i s.w.length r→NT C (rd s.g.Rules (r:Int)).Head i s.w.length
 todo:∀ v ∈ td,∃ p:Nat,v=(p:Int)∧Act s t ng p
 ngx:ng=false→∀ p,Act s t true p→(RT C p i s.w.length↔SeqS (NT C) (wf s.w) (rest s.g p) i s.w.length)
 pst:∀ p,p<(trip s.g).length→∀ k,i<k→k≤s.w.length→(RT C p k s.w.length↔SeqS (NT C) (wf s.w) (rest s.g p) k s.w.length)
theorem Wk.mono {s:TS} {X0 C0:List J0} {i:Nat} {t:Int} {ng:Bool} {V D V' D':Nat→Prop} {C:List J0} {td:List Int} (h:Wk s X0 C0 i t ng V D C td) (hV:∀ p,Act s t ng p→V' p→V p) (hD:∀ r,D' r→D r):Wk s X0 C0 i t ng V' D' C td :=
 ⟨h.shp,h.len,h.env,h.low,h.nms,h.oth,h.ri,h.snd,fun p ha hv=>h.cpl p ha (hV p ha hv),fun e r hd=>h.rul e r (hD r hd),h.todo,h.ngx,h.pst⟩
theorem Wk.self {s:TS} {X0 C0:List J0} {i:Nat} {t:Int} {ng:Bool} {V D:Nat→Prop} {C:List J0} {td:List Int} (h:Wk s X0 C0 i t ng V D C td):upd (NT X0) i s.w.length (fun x=>NT C x i s.w.length)=NT C:=by
 funext x a b
 unfold upd
 split
 ·rename_i e;rw [e.1,e.2]
 ·rename_i e;exact propext (h.env x a b e).symm
theorem names_lv {s:TS} (hx:TX s) {p:Nat} (hp:p<(trip s.g).length) {y:Symbol} (hy:y ∈ psq s.g p) (h0:0≤y.Name):y.Name<(s.g.Names.length:Int)∧rd s.xs y.Name+(if png s.g p=true then 1 else 0)≤plv s p :=
 (hx.cx.lv _ (rd_mem' (pg hp).1)).2 _ (rd_mem' (pg hp).2) y hy h0
theorem tRule_l0 (K:Nat) (hK:1000000≤K) (s:TS) (hx:TX s) (C:List J0) (h:ShT s C) (hl:C.length=s.w.length+1) (n:Nat) (td:List Int) (r i:Nat) (hr:r<s.g.Rules.length) (hn:n+64≤4611686018427387904) :
  (∃ n',L3.l0 K (E s C n td) r i K ((n:Int),0)=some (.inr (E s C n' td))∧n≤n'∧n'≤n+nc s.g r∧¬ CB s C i s.w.length r) ∨
  (∃ k:Int,L3.l0 K (E s C n td) r i K ((n:Int),0)=some (.inl (((n+nc s.g r:Nat):Int),k))∧CB s C i s.w.length r):=by
 have q3:=hx.cx.cl hr
 have key:=rounds (σ:=Int×Int) (ρ:=(Int×Int) ⊕ k0) (L:=L3.l0 K (E s C n td) r i)
  (fun z=>∃ c:Nat,z=(((n+c:Nat):Int),(c:Int))∧c≤nc s.g r∧∀ q,q<c→((rd (rd s.g.Rules (r:Int)).Conj (q:Int)).Neg=true↔¬ RT C (bgn s r q) i s.w.length))
  (fun z=>nc s.g r-z.2.toNat)
  (fun ρ=>(∃ n':Nat,ρ = .inr (E s C n' td)∧n≤n'∧n'≤n+nc s.g r∧¬ CB s C i s.w.length r)∨(∃ k:Int,ρ = .inl (((n+nc s.g r:Nat):Int),k)∧CB s C i s.w.length r)) ?_ K ((n:Int),0) ⟨0,rfl,Nat.zero_le _,fun q hq=>by omega⟩ (by simp;omega)
 ·obtain ⟨ρ,e1,hρ⟩:=key
  rcases hρ with ⟨n',rfl,h1⟩ | ⟨k,rfl,h1⟩
  ·exact .inl ⟨n',e1,h1⟩
  ·exact .inr ⟨k,e1,h1⟩
 ·rintro z mm ⟨c,rfl,k1,k2⟩
  simp only [L3.l0]
  by_cases hc:c<nc s.g r
  ·obtain ⟨b1,b2,b3⟩:=bgn_ok hx hr hc
   have w1:=h.r1 s.w.length (by omega)
   have w2:=h.r2 s.w.length (by omega) _ b2
   have e3:IntKind.wrap .i64 (((n+c:Nat):Int)+1)=((n+(c+1):Nat):Int):=by rw [wr (by omega) (by omega)];omega
   have e4:IntKind.wrap .i64 ((c:Int)+1)=((c+1:Nat):Int):=by rw [wr (by omega) (by omega)];omega
   simp only [b1,e3,e4]
   rw [if_pos (by show (c:Int)<((nc s.g r:Nat):Int);omega),if_pos (by show (r:Int)<(s.bg.length:Int);rw [hx.b1];omega),if_pos (by omega),if_pos (by rw [hx.b2 r hr];show (c:Int)<((nc s.g r:Nat):Int);omega),if_pos (by omega),if_pos (by rw [w1];omega),shr1 w2 i]
   have ed:decide ((if bit (rd (rd C (s.w.length:Int)).rests (bgn s r c:Int)) i=true then (1:Int) else 0)=1)=bit (rd (rd C (s.w.length:Int)).rests (bgn s r c:Int)) i:=by
    cases bit (rd (rd C (s.w.length:Int)).rests (bgn s r c:Int)) i <;> simp
   rw [ed]
   by_cases he:bit (rd (rd C (s.w.length:Int)).rests (bgn s r c:Int)) i=(rd (rd s.g.Rules (r:Int)).Conj (c:Int)).Neg
   ·rw [if_pos he]
    refine .inl ⟨_,rfl,.inl ⟨n+(c+1),rfl,by omega,by omega,fun hh=>?_⟩⟩
    have:=hh c hc
    unfold RT at this
    rw [he] at this
    cases hn:(rd (rd s.g.Rules (r:Int)).Conj (c:Int)).Neg <;> rw [hn] at this <;> simp at this
   ·rw [if_neg he]
    refine .inr ⟨_,⟨c+1,rfl,hc,fun q hq=>?_⟩,by simp;omega,rfl⟩
    by_cases ec:q=c
    ·subst ec
     unfold RT
     cases hn:(rd (rd s.g.Rules (r:Int)).Conj (q:Int)).Neg <;> rw [hn] at he <;> simp at he ⊢ <;> exact he
    ·exact k2 q (by omega)
  ·rw [if_neg (by show ¬ (c:Int)<((nc s.g r:Nat):Int);omega)]
   have:c=nc s.g r:=by omega
   subst this
   exact .inl ⟨_,rfl,.inr ⟨_,rfl,k2⟩⟩
def keepP (s:TS) (t:Int) (v:Int):Bool:=decide ((rd s.pl v).level=t) && !(rd s.pl v).neg
theorem tRule_l1 (K:Nat) (hK:1000000≤K) (s:TS) (hx:TX s) (C:List J0) (n0 n:Nat) (td0 td:List Int) (r hd:Nat) (hr:r<s.g.Rules.length) (ehd:(rd s.g.Rules (r:Int)).Head=(hd:Int)) (hhd:hd<s.g.Names.length) (t:Int) (hn:n+4000≤4611686018427387904) (ht:td.length≤500000) (hal:(rd s.at_ (hd:Int)).length≤3072) :
  ∃ k:Int,L3.l1 K (E s C n0 td0) r t K (td,(n:Int),0)=some (td++(rd s.at_ (hd:Int)).filter (keepP s t),((n+(rd s.at_ (hd:Int)).length:Nat):Int),k):=by
 have key:=rounds (σ:=List Int×Int×Int) (ρ:=List Int×Int×Int) (L:=L3.l1 K (E s C n0 td0) r t)
  (fun z=>∃ c:Nat,z=(td++((rd s.at_ (hd:Int)).take c).filter (keepP s t),((n+c:Nat):Int),(c:Int))∧c≤(rd s.at_ (hd:Int)).length)
  (fun z=>(rd s.at_ (hd:Int)).length-z.2.2.toNat)
  (fun ρ=>∃ k:Int,ρ=(td++(rd s.at_ (hd:Int)).filter (keepP s t),((n+(rd s.at_ (hd:Int)).length:Nat):Int),k)) ?_ K (td,(n:Int),0) ⟨0,by simp,Nat.zero_le _⟩ (by simp;omega)
 ·obtain ⟨ρ,e1,k,rfl⟩:=key
  exact ⟨k,e1⟩
 ·rintro z mm ⟨c,rfl,k1⟩
  simp only [L3.l1]
  simp only [ehd]
  by_cases hc:c<(rd s.at_ (hd:Int)).length
  ·have hv:=(hx.at_.mem hd hhd (rd (rd s.at_ (hd:Int)) (c:Int))).1 (rd_mem' hc)
   obtain ⟨p,p1,p2,_⟩:=hv
   have e3:IntKind.wrap .i64 (((n+c:Nat):Int)+1)=((n+(c+1):Nat):Int):=by rw [wr (by omega) (by omega)];omega
   have e4:IntKind.wrap .i64 ((c:Int)+1)=((c+1:Nat):Int):=by rw [wr (by omega) (by omega)];omega
   have lf:(((rd s.at_ (hd:Int)).take c).filter (keepP s t)).length≤3072:=Nat.le_trans (List.length_filter_le _ _) (by rw [List.length_take];omega)
   have hf:((rd s.at_ (hd:Int)).take (c+1)).filter (keepP s t)=((rd s.at_ (hd:Int)).take c).filter (keepP s t)++if keepP s t (rd (rd s.at_ (hd:Int)) (c:Int))=true then [rd (rd s.at_ (hd:Int)) (c:Int)] else []:=by
    rw [take_succ_rd hc,List.filter_append]
    congr 1
    cases hk:keepP s t (rd (rd s.at_ (hd:Int)) (c:Int)) <;> simp [List.filter,hk]
   simp only [e3,e4]
   rw [if_pos (by show (c:Int)<((rd s.at_ (hd:Int)).length:Int);omega),if_pos (by omega),if_pos (by show 0≤rd (rd s.at_ (hd:Int)) (c:Int);omega),if_pos (by show rd (rd s.at_ (hd:Int)) (c:Int)<(s.pl.length:Int);rw [hx.pll];omega)]
   by_cases h1:(rd s.pl (rd (rd s.at_ (hd:Int)) (c:Int))).level=t
   ·rw [if_pos h1]
    by_cases h2:(!(rd s.pl (rd (rd s.at_ (hd:Int)) (c:Int))).neg)=true
    ·have hk:keepP s t (rd (rd s.at_ (hd:Int)) (c:Int))=true:=by unfold keepP;rw [decide_eq_true h1,h2];rfl
     rw [if_pos h2,if_pos (by show ((td++_).length+1)*8≤_;rw [List.length_append];omega)]
     refine .inr ⟨_,⟨c+1,rfl,hc⟩,by simp;omega,?_⟩
     rw [hf,if_pos hk,← List.append_assoc]
    ·have hk:¬ keepP s t (rd (rd s.at_ (hd:Int)) (c:Int))=true:=by unfold keepP;rw [decide_eq_true h1,Bool.true_and];exact h2
     rw [if_neg h2]
     refine .inr ⟨_,⟨c+1,rfl,hc⟩,by simp;omega,?_⟩
     rw [hf,if_neg hk,List.append_nil]
   ·have hk:¬ keepP s t (rd (rd s.at_ (hd:Int)) (c:Int))=true:=by unfold keepP;rw [decide_eq_false h1];simp
    rw [if_neg h1]
    refine .inr ⟨_,⟨c+1,rfl,hc⟩,by simp;omega,?_⟩
    rw [hf,if_neg hk,List.append_nil]
  ·rw [if_neg (by show ¬ (c:Int)<((rd s.at_ (hd:Int)).length:Int);omega)]
   have:c=(rd s.at_ (hd:Int)).length:=by omega
   subst this
   exact .inl ⟨_,rfl,_,by rw [List.take_length]⟩
theorem at_le {s:TS} (hx:TX s) {x:Nat} (h:x<s.g.Names.length):(rd s.at_ (x:Int)).length≤3072:=by
 have h1:=hx.at_.sum
 have h2:=hx.pn
 have h3:∀ n,x<n→(rd s.at_ (x:Int)).length≤wsum (fun x=>(rd s.at_ (x:Int)).length) n:=by
  intro n
  induction n with
  | zero=>intro h;omega
  | succ n ih =>
   intro hh
   simp only [wsum]
   by_cases c:x=n
   ·subst c;omega
   ·have:=ih (by omega);omega
 have:=h3 _ h
 omega
theorem tRule_spec (K:Nat) (hK:1000000≤K) (s:TS) (hx:TX s) (X0 C0:List J0) (i:Nat) (hi:i≤s.w.length) (t:Int) (V D:Nat→Prop) (C:List J0) (td:List Int) (r:Nat) (hr:r<s.g.Rules.length)
  (h:Wk s X0 C0 i t false V (fun q=>D q∧q≠r) C td) (n:Nat) (hn:n+Psi s C td i+5000≤4611686018427387904) (hP:Psi s C td i≤500000) :
  ∃ C' n' td',L3 K (E s C n td) r t i=some (E s C' n' td')∧Wk s X0 C0 i t false V (fun q=>D q∨q=r) C' td'∧Psi s C' td' i≤Psi s C td i∧n'+Psi s C' td' i≤n+Psi s C td i+(if rd s.xs (rd s.g.Rules (r:Int)).Head=t then nc s.g r else 0)∧n≤n':=by
 have q1:=hx.cx.wl
 have q2:=hx.cx.rl
 have q3:=hx.cx.cl hr
 have hh:=hx.cx.hd hr
 have hxl:=hx.cx.xl
 have hn1:=h.shp.n1 s.w.length (by rw [h.len];omega)
 obtain ⟨hd,ehd⟩:∃ hd:Nat,(rd s.g.Rules (r:Int)).Head=(hd:Int):=⟨(rd s.g.Rules (r:Int)).Head.toNat,by omega⟩
 have hdl:hd<s.g.Names.length:=by omega
 have hn2:=h.shp.n2 s.w.length (by rw [h.len];omega) hd hdl
 have hal:=at_le hx hdl
 have htd:=Psi_td s C td i
 unfold L3
 rw [if_pos (by omega),if_pos (by show (r:Int)<(s.g.Rules.length:Int);omega),if_pos (by show (s.w.length:Int)<(C.length:Int);rw [h.len];omega),if_pos hh.1,if_pos (by show _<(s.xs.length:Int);rw [hxl];exact hh.2)]
 simp only [ehd] at hh ⊢
 by_cases ht:rd s.xs (hd:Int)=t
 ·rw [if_neg (fun z=>z ht),if_pos (by rw [hn1];omega),if_pos (by omega),shr1 hn2 i]
  by_cases hb:bit (rd (rd C (s.w.length:Int)).names (hd:Int)) i=true
  ·rw [if_pos hb,if_pos rfl]
   refine ⟨C,n,td,rfl,⟨h.shp,h.len,h.env,h.low,h.nms,h.oth,h.ri,h.snd,h.cpl,fun e q hq hq2 hq3 hq4=>?_,h.todo,h.ngx,h.pst⟩,Nat.le_refl _,by omega,Nat.le_refl _⟩
   by_cases eq:q=r
   ·subst eq;rw [ehd];exact hb
   ·exact h.rul e q ⟨hq.elim id fun z=>(eq z).elim,eq⟩ hq2 hq3 hq4
  ·rw [if_neg hb,if_neg (by decide)]
   rcases tRule_l0 K hK s hx C h.shp h.len n td r i hr (by omega) with ⟨n',e1,g1,g2,g3⟩ | ⟨k,e1,g1⟩
   ·erw [e1]
    refine ⟨C,n',td,rfl,⟨h.shp,h.len,h.env,h.low,h.nms,h.oth,h.ri,h.snd,h.cpl,fun e q hq hq2 hq3 hq4=>?_,h.todo,h.ngx,h.pst⟩,Nat.le_refl _,by rw [if_pos ht];omega,g1⟩
    by_cases eq:q=r
    ·subst eq;exact (g3 hq4).elim
    ·exact h.rul e q ⟨hq.elim id fun z=>(eq z).elim,eq⟩ hq2 hq3 hq4
   ·erw [e1]
    simp only [brk,Option.bind_some]
    obtain ⟨k2,e2⟩:=tRule_l1 K hK s hx C n (n+nc s.g r) td td r hd hr ehd hdl t (by omega) (by omega) hal
    rw [if_pos (by show (hd:Int)<(s.at_.length:Int);rw [hx.at_.len];omega)]
    erw [e2]
    rw [Option.bind_some]
    simp only [Int.toNat_natCast]
    have hi64:i<64:=by omega
    have hset:=setM_NT h.shp (j:=s.w.length) (p:=hd) (i:=i) (by rw [h.len];omega) hdl hi64
    have hP2:=Psi_setM h.shp h.len hdl hi64 hb td (td++(rd s.at_ (hd:Int)).filter (keepP s t)) (by rw [List.length_append];have:=List.length_filter_le (keepP s t) (rd s.at_ (hd:Int));omega)
    refine ⟨setM C s.w.length hd (ior .u64 (rd (rd C (s.w.length:Int)).names (hd:Int)) (ishl .u64 1 (i:Int))),n+nc s.g r+(rd s.at_ (hd:Int)).length,td++(rd s.at_ (hd:Int)).filter (keepP s t),rfl,?_,by omega,by rw [if_pos ht];omega,by omega⟩
    have up:∀ (y:Int) a b,NT C y a b→NT (setM C s.w.length hd (ior .u64 (rd (rd C (s.w.length:Int)).names (hd:Int)) (ishl .u64 1 (i:Int)))) y a b:=fun y a b hy=>(hset y a b).2 (.inl hy)
    have lowN:∀ y:Int,0≤y→rd s.xs y≠t→∀ a b,NT (setM C s.w.length hd (ior .u64 (rd (rd C (s.w.length:Int)).names (hd:Int)) (ishl .u64 1 (i:Int)))) y a b↔NT C y a b:=fun y h0 hne a b=>by
     rw [hset]
     exact ⟨fun z=>z.elim id fun z=>(hne (by have:=z.2.1;rw [show y=(hd:Int) by omega];exact ht)).elim,.inl⟩
    refine ⟨setM_shp h.shp (by rw [h.len];omega) (or_ok hn2 hi64),(setM_len ..).trans h.len,fun x a b hne=>?_,fun x h0 hne a b=>(lowN x h0 hne a b).trans (h.low x h0 hne a b),fun e=>(by cases e),fun p a b hne=>(setM_RT ..).trans (h.oth p a b hne),?_,fun p hp hq=>?_,fun p hp hV hS=>?_,fun e q hq hq2 hq3 hq4=>?_,fun v hv=>?_,fun e p hp=>?_,fun p hp k k1 k2=>?_⟩
    ·rw [hset,← h.env x a b hne]
     exact ⟨fun z=>z.elim id fun z=>(hne ⟨z.2.2,z.1⟩).elim,.inl⟩
    ·have hH:HS (NT X0) (wf s.w) i s.w.length (fun x=>NT C x i s.w.length) (rd s.g.Rules (r:Int)):=by
      unfold HS
      rw [h.self]
      intro c hc
      obtain ⟨q,hq,rfl⟩:=mem_rd hc
      obtain ⟨b1,b2,b3⟩:=bgn_ok hx hr hq
      have br:=bgn_rest hx hr hq
      have hact:∀ b,(rd (rd s.g.Rules (r:Int)).Conj (q:Int)).Neg=b→Act s t b (bgn s r q):=fun b hb=>⟨b2,by unfold plv;rw [b3,ehd];exact ht,by unfold png;rw [b3];exact hb⟩
      rw [g1 q hq]
      cases hneg:(rd (rd s.g.Rules (r:Int)).Conj (q:Int)).Neg with
      | true =>
       have:=h.ngx rfl _ (hact true hneg)
       rw [br] at this
       exact not_congr this
      | false =>
       have hc0:=g1 q hq
       rw [hneg] at hc0
       have hrt:RT C (bgn s r q) i s.w.length:=Classical.byContradiction fun z=>by cases hc0.2 z
       have:=h.snd _ (hact false hneg) hrt
       rw [br] at this
       exact ⟨fun z=>(z hrt).elim,fun z=>(z this).elim⟩
     have hput:=RI.put (HS_lvl hx.cx.lv (NT X0) (wf s.w) i s.w.length) h.ri (rd_mem' hr) (by rw [ehd];exact ht) hH
     refine RI_on hput (fun y h0 h1=>?_) (HS_lvl hx.cx.lv (NT X0) (wf s.w) i s.w.length)
     rw [hset,ehd]
     exact ⟨fun z=>z.imp id fun z=>by have:=z.2.1;omega,fun z=>z.imp id fun z=>⟨rfl,by omega,rfl⟩⟩
    ·rw [setM_RT] at hq
     exact SeqS_mono (fun y _ _ a b _ _ _=>up y.Name a b) (h.snd p hp hq)
    ·rw [setM_RT]
     have hlt:=Gh hp.1
     by_cases hold:Stp s C p i s.w.length
     ·exact (h.cpl p hp hV hold).imp id fun z=>List.mem_append_left _ z
     ·refine .inr (List.mem_append_right _ (List.mem_filter.2 ⟨?_,?_⟩))
      ·rcases hS with ⟨e,e2⟩ | ⟨e,k',k1,k2,k3,k4⟩
       ·exact (hold (.inl ⟨e,e2⟩)).elim
       ·rw [setM_RT] at k4
        refine (hx.at_.mem hd hdl _).2 ⟨p,hp.1,rfl,e,?_⟩
        refine Classical.byContradiction fun hne=>hold (.inr ⟨e,k',k1,k2,?_,k4⟩)
        unfold SymS at k3 ⊢
        split at k3
        ·rename_i h0
         rw [if_pos h0]
         rcases (hset _ _ _).1 k3 with z | z
         ·exact z
         ·exact (hne (by have:=z.2.1;show (psy s.g p).Name=(hd:Int);omega)).elim
        ·rename_i h0
         rw [if_neg h0];exact k3
      ·unfold keepP
       rw [hx.plr hp.1]
       show (decide (plv s p=t) && !png s.g p)=true
       rw [hp.2.1,hp.2.2,decide_eq_true rfl];rfl
    ·by_cases eq:q=r
     ·subst eq;rw [ehd];exact (hset _ _ _).2 (.inr ⟨rfl,Int.toNat_natCast _,rfl⟩)
     ·refine up _ _ _ (h.rul e q ⟨hq.elim id fun z=>(eq z).elim,eq⟩ hq2 hq3 fun c hc=>?_)
      rw [hq4 c hc,setM_RT]
    ·rcases List.mem_append.1 hv with hv | hv
     ·exact h.todo v hv
     ·obtain ⟨v1,v2⟩:=List.mem_filter.1 hv
      obtain ⟨p,p1,p2,p3⟩:=(hx.at_.mem hd hdl v).1 v1
      unfold keepP at v2
      rw [p2,hx.plr p1,Bool.and_eq_true,decide_eq_true_eq,Bool.not_eq_true'] at v2
      exact ⟨p,p2,p1,v2.1,v2.2⟩
    ·rw [setM_RT,h.ngx rfl p hp]
     refine SeqS_env fun y hy h0 a b _ _ _=>(lowN y.Name h0 ?_ a b).symm
     have:=(names_lv hx hp.1 (rest_sub hy) h0).2
     rw [hp.2.1,hp.2.2] at this
     simp at this
     omega
    ·rw [setM_RT,h.pst p hp k k1 k2]
     refine SeqS_env fun y hy h0 a b h1 _ _=>?_
     rw [hset]
     exact ⟨.inl,fun z=>z.elim id fun z=>by omega⟩
 ·rw [if_pos ht]
  refine ⟨C,n,td,rfl,⟨h.shp,h.len,h.env,h.low,h.nms,h.oth,h.ri,h.snd,h.cpl,fun e q hq hq2 hq3 hq4=>?_,h.todo,h.ngx,h.pst⟩,Nat.le_refl _,by omega,Nat.le_refl _⟩
  by_cases eq:q=r
  ·subst eq;rw [ehd] at hq3;exact (ht hq3).elim
  ·exact h.rul e q ⟨hq.elim id fun z=>(eq z).elim,eq⟩ hq2 hq3 hq4
theorem Act_nx {s:TS} {t:Int} {ng:Bool} {p:Nat} (h:Act s t ng p) (hm:(tg s.g p).2.2<(psq s.g p).length):Act s t ng (p+1):=by
 obtain ⟨h1,h2⟩:=me h.1 hm
 exact ⟨h1,by unfold plv;rw [h2];exact h.2.1,by unfold png;rw [h2];exact h.2.2⟩
theorem Act_pv {s:TS} {t:Int} {ng:Bool} {p:Nat} (h:Act s t ng p) (hm:0<(tg s.g p).2.2):Act s t ng (p-1):=by
 obtain ⟨h1,h2⟩:=yh h.1 hm
 exact ⟨by have:=h.1;omega,by unfold plv;rw [h2];exact h.2.1,by unfold png;rw [h2];exact h.2.2⟩
theorem Wk.stp {s:TS} {X0 C0:List J0} {i:Nat} {t:Int} {ng:Bool} {V D:Nat→Prop} {C:List J0} {td:List Int} (h:Wk s X0 C0 i t ng V D C td) {p:Nat} (hp:Act s t ng p) (hs:Stp s C p i s.w.length):SeqS (NT C) (wf s.w) (rest s.g p) i s.w.length:=by
 rcases hs with ⟨e,e2⟩ | ⟨e,k,k1,k2,k3,k4⟩
 ·rw [rest_last e];exact e2
 ·rw [rest_next hp.1 e]
  refine ⟨k,k1,k2,k3,?_⟩
  by_cases ek:k=i
  ·subst ek;exact h.snd _ (Act_nx hp e) k4
  ·exact (h.pst _ (me hp.1 e).1 k (by omega) k2).1 k4
theorem Wk.exact {s:TS} {X0 C0:List J0} {i:Nat} {t:Int} {ng:Bool} {D:Nat→Prop} {C:List J0} (h:Wk s X0 C0 i t ng (fun _=>True) D C []) {p:Nat} (hp:Act s t ng p):RT C p i s.w.length↔SeqS (NT C) (wf s.w) (rest s.g p) i s.w.length:=by
 refine ⟨h.snd p hp,?_⟩
 have key:∀ (d p:Nat),Act s t ng p→(psq s.g p).length-(tg s.g p).2.2=d→SeqS (NT C) (wf s.w) (rest s.g p) i s.w.length→RT C p i s.w.length:=by
  intro d
  induction d with
  | zero =>
   intro p hp hd hs
   have:=Gh hp.1
   have e:(tg s.g p).2.2=(psq s.g p).length:=by omega
   rw [rest_last e] at hs
   exact (h.cpl p hp trivial (.inl ⟨e,hs⟩)).elim id fun z=>by cases z
  | succ d ih =>
   intro p hp hd hs
   have e:(tg s.g p).2.2<(psq s.g p).length:=by omega
   rw [rest_next hp.1 e] at hs
   obtain ⟨k,k1,k2,k3,k4⟩:=hs
   refine (h.cpl p hp trivial (.inr ⟨e,k,k1,k2,k3,?_⟩)).elim id fun z=>by cases z
   obtain ⟨g1,g2⟩:=me hp.1 e
   by_cases ek:k=i
   ·subst ek
    refine ih (p+1) (Act_nx hp e) ?_ k4
    have:psq s.g (p+1)=psq s.g p:=by unfold psq;rw [g2]
    rw [this,g2];simp only;omega
   ·exact (h.pst _ g1 k (by omega) k2).2 k4
 exact key _ p hp rfl
theorem tLook_spec (K:Nat) (hK:1000000≤K) (s:TS) (hx:TX s) (X0 C0:List J0) (i:Nat) (hi:i≤s.w.length) (t:Int) (ng:Bool) (V D:Nat→Prop) (C:List J0) (td:List Int) (p:Nat) (hp:Act s t ng p)
  (h:Wk s X0 C0 i t ng (fun q=>V q∧q≠p) D C td) (n:Nat) (hn:n+Psi s C td i+6000≤4611686018427387904) (hP:Psi s C td i≤500000) :
  ∃ C' n' td',V8 K (E s C n td) p i=some (E s C' n' td')∧Wk s X0 C0 i t ng (fun q=>V q∨q=p) D C' td'∧Psi s C' td' i≤Psi s C td i∧n'+Psi s C' td' i≤n+Psi s C td i+lkL s i∧n≤n':=by
 have q1:=hx.cx.wl
 have q2:=hx.pn
 have hr1:=h.shp.r1 s.w.length (by rw [h.len];omega)
 have hr2:=h.shp.r2 s.w.length (by rw [h.len];omega) p hp.1
 have hp1:=hp.1
 have htd:=Psi_td s C td i
 have hi64:i<64:=by omega
 have hlk:lkL s i≤34:=by show s.w.length-i+2≤34;omega
 unfold V8
 rw [if_pos (by show (s.w.length:Int)<(C.length:Int);rw [h.len];omega),if_pos (by omega),if_pos (by show (p:Int)<((rd C (s.w.length:Int)).rests.length:Int);rw [hr1];omega),if_pos (by omega),shr1 hr2 i]
 by_cases hb:bit (rd (rd C (s.w.length:Int)).rests (p:Int)) i=true
 ·rw [if_pos hb,if_pos rfl]
  refine ⟨C,n,td,rfl,⟨h.shp,h.len,h.env,h.low,h.nms,h.oth,h.ri,h.snd,fun q hq hv hs=>?_,h.rul,h.todo,h.ngx,h.pst⟩,Nat.le_refl _,by omega,Nat.le_refl _⟩
  by_cases e:q=p
  ·subst e;exact .inl hb
  ·exact h.cpl q hq ⟨hv.elim id fun z=>(e z).elim,e⟩ hs
 ·rw [if_neg hb,if_neg (by decide)]
  obtain ⟨b,n',e1,e2,e3,e4⟩:=tHolds_spec K hK s hx C h.shp h.len n td p i hp1 hi (by omega)
  rw [e1,Option.bind_some]
  cases b with
  | false =>
   rw [if_pos (by simp)]
   refine ⟨C,n',td,rfl,⟨h.shp,h.len,h.env,h.low,h.nms,h.oth,h.ri,h.snd,fun q hq hv hs=>?_,h.rul,h.todo,h.ngx,h.pst⟩,Nat.le_refl _,by show n'+_≤n+_+(s.w.length-i+2);omega,e3⟩
   by_cases e:q=p
   ·subst e;cases e2.2 hs
   ·exact h.cpl q hq ⟨hv.elim id fun z=>(e z).elim,e⟩ hs
  | true =>
   have hst:=e2.1 rfl
   have hset:=setR_RT h.shp (j:=s.w.length) (p:=p) (i:=i) (by rw [h.len];omega) hp1 hi64
   have hNT:=setR_NT C s.w.length p (ior .u64 (rd (rd C (s.w.length:Int)).rests (p:Int)) (ishl .u64 1 (i:Int)))
   have hPs:=Psi_setR h.shp h.len hp1 hi64 hb
   have hshp:=setR_shp h.shp (j:=s.w.length) (p:=p) (by rw [h.len];omega) (or_ok hr2 hi64)
   have hlen:=(setR_len C s.w.length p (ior .u64 (rd (rd C (s.w.length:Int)).rests (p:Int)) (ishl .u64 1 (i:Int)))).trans h.len
   have core:∀ (td':List Int) (D':Nat→Prop),(∀ v ∈ td,v ∈ td')→(0<(tg s.g p).2.2→((p-1:Nat):Int) ∈ td')→(∀ v ∈ td',∃ q:Nat,v=(q:Int)∧Act s t ng q) →
     (ng=false→∀ r,D' r→r<s.g.Rules.length→D r∧∀ c,c<nc s.g r→bgn s r c≠p) →
     Wk s X0 C0 i t ng (fun q=>V q∨q=p) D' (setR C s.w.length p (ior .u64 (rd (rd C (s.w.length:Int)).rests (p:Int)) (ishl .u64 1 (i:Int)))) td':=fun td' D' t1 t2 t3 t4=>by
    refine ⟨hshp,hlen,by rw [hNT];exact h.env,by rw [hNT];exact h.low,by rw [hNT];exact h.nms,fun q a b hne=>?_,by rw [hNT];exact h.ri,fun q hq hh=>?_,fun q hq hv hs=>?_,fun e r hd hr ht hcb=>?_,t3,fun e q hq=>?_,fun q hq k k1 k2=>?_⟩
    ·rw [hset,← h.oth q a b hne]
     exact ⟨fun z=>z.elim id fun z=>(hne ⟨z.2.2,z.1,by rw [z.2.1];exact hp⟩).elim,.inl⟩
    ·rw [hNT]
     rcases (hset _ _ _).1 hh with z | z
     ·exact h.snd q hq z
     ·rw [z.2.1];exact h.stp hp hst
    ·rw [hset]
     by_cases e:q=p
     ·exact .inl (.inr ⟨rfl,e,rfl⟩)
     ·by_cases hold:Stp s C q i s.w.length
      ·exact (h.cpl q hq ⟨hv.elim id fun z=>(e z).elim,e⟩ hold).imp .inl (t1 _)
      ·rcases hs with ⟨g1,g2⟩ | ⟨g1,k,k1,k2,k3,k4⟩
       ·exact (hold (.inl ⟨g1,g2⟩)).elim
       ·rw [hNT] at k3
        rcases (hset _ _ _).1 k4 with z | z
        ·exact (hold (.inr ⟨g1,k,k1,k2,k3,z⟩)).elim
        ·have hq2:=(me hq.1 g1).2
         rw [z.2.1] at hq2
         refine .inr ?_
         rw [show q=p-1 by omega]
         exact t2 (by rw [hq2];simp)
    ·obtain ⟨d1,d2⟩:=t4 e r hd hr
     rw [hNT]
     refine h.rul e r d1 hr ht fun c hc=>?_
     rw [hcb c hc,hset]
     exact not_congr ⟨fun z=>z.elim id fun z=>(d2 c hc z.2.1).elim,.inl⟩
    ·rw [hNT,hset,← h.ngx e q hq]
     exact ⟨fun z=>z.elim id fun z=>by
      have h1:=hq.2.2
      have h2:=hp.2.2
      rw [z.2.1,h2,e] at h1
      exact absurd h1 (by decide),.inl⟩
    ·rw [hNT,hset,← h.pst q hq k k1 k2]
     exact ⟨fun z=>z.elim id fun z=>by omega,.inl⟩
   rw [if_neg (by simp)]
   simp only
   rw [if_pos (by rw [h.len];omega),if_pos (by rw [hr1];omega),if_pos (by rw [hx.pll];omega)]
   simp only [hx.plr hp1,mkP]
   by_cases hf:(tg s.g p).2.2=0
   ·rw [if_neg (by simp [hf])]
    have nofirst:¬ 0<(tg s.g p).2.2:=by omega
    cases ng with
    | false =>
     have hneg:(rd (rd s.g.Rules ((tg s.g p).1:Int)).Conj ((tg s.g p).2.1:Int)).Neg=false:=hp.2.2
     rw [if_pos (by rw [hneg];rfl)]
     have hw:=core td (fun r=>D r∧r≠(tg s.g p).1) (fun v hv=>hv) (fun z=>(nofirst z).elim) h.todo fun _ r hd hr=>⟨hd.1,fun c hc hh=>hd.2 (by
      have:=(bgn_ok hx hr hc).2.2
      rw [hh] at this;rw [this])⟩
     have hP1:=hPs td
     obtain ⟨C2,n2,td2,g1,g2,g3,g4,g5⟩:=tRule_spec K hK s hx X0 C0 i hi t (fun q=>V q∨q=p) D _ td (tg s.g p).1 (pg hp1).1 hw n' (by omega) (by omega)
     have hl8:=hx.cx.cl (pg hp1).1
     have elv:rd s.xs (rd s.g.Rules ((tg s.g p).1:Int)).Head=t:=hp.2.1
     rw [elv]
     erw [g1]
     rw [if_pos elv] at g4
     exact ⟨C2,n2,td2,rfl,g2.mono (fun _ _ z=>z) (fun _ z=>.inl z),by omega,by show n2+_≤n+_+(s.w.length-i+2);omega,by omega⟩
    | true =>
     have hneg:(rd (rd s.g.Rules ((tg s.g p).1:Int)).Conj ((tg s.g p).2.1:Int)).Neg=true:=hp.2.2
     rw [if_neg (by rw [hneg];decide)]
     have hP1:=hPs td
     exact ⟨setR C s.w.length p (ior .u64 (rd (rd C (s.w.length:Int)).rests (p:Int)) (ishl .u64 1 (i:Int))),n',td,rfl,core td D (fun v hv=>hv) (fun z=>(nofirst z).elim) h.todo (fun z=>absurd z (by decide)),by omega,by show n'+_≤n+_+(s.w.length-i+2);omega,e3⟩
   ·have e5:IntKind.wrap .i64 ((p:Int)-1)=((p-1:Nat):Int):=by
     have:=(yh hp1 (by omega)).1
     rw [wr (by omega) (by omega)];omega
    rw [if_pos (by simp [hf]),e5,if_pos (by show (td.length+1)*8≤_;omega)]
    have hP1:=hPs (td++[((p-1:Nat):Int)])
    have hP2:Psi s C (td++[((p-1:Nat):Int)]) i=Psi s C td i+lkL s i:=by
     unfold Psi;rw [List.length_append,List.length_singleton,Nat.mul_add,Nat.mul_one];omega
    refine ⟨setR C s.w.length p (ior .u64 (rd (rd C (s.w.length:Int)).rests (p:Int)) (ishl .u64 1 (i:Int))),n',td++[((p-1:Nat):Int)],rfl,core _ D (fun v hv=>List.mem_append_left _ hv) (fun _=>List.mem_append_right _ (List.mem_singleton.2 rfl)) (fun v hv=>?_) fun e r hd hr=>⟨hd,fun c hc hh=>?_⟩,by omega,by show n'+_≤n+_+(s.w.length-i+2);omega,e3⟩
    ·rcases List.mem_append.1 hv with hv | hv
     ·exact h.todo v hv
     ·rw [List.mem_singleton] at hv
      exact ⟨p-1,hv,Act_pv hp (by omega)⟩
    ·have:=(bgn_ok hx hr hc).2.2
     rw [hh] at this;rw [this] at hf;exact hf rfl
theorem tAgain_spec (K:Nat) (hK:1000000≤K) (s:TS) (hx:TX s) (X0 C0:List J0) (i:Nat) (hi:i≤s.w.length) (t:Int) (ng:Bool) (D:Nat→Prop) (C:List J0) (td:List Int)
  (h:Wk s X0 C0 i t ng (fun _=>True) D C td) (n:Nat) (hn:n+Psi s C td i+6000≤4611686018427387904) (hP:Psi s C td i≤500000) :
  ∃ C' n',W5 K (E s C n td) i=some (E s C' n' [])∧Wk s X0 C0 i t ng (fun _=>True) D C' []∧Psi s C' [] i≤Psi s C td i∧n'+Psi s C' [] i≤n+Psi s C td i∧n≤n':=by
 have q1:=hx.cx.wl
 have key:=rounds (σ:=k0) (ρ:=k0) (L:=W5.l0 K i)
  (fun z=>∃ C' n' td',z=E s C' n' td'∧Wk s X0 C0 i t ng (fun _=>True) D C' td'∧Psi s C' td' i≤Psi s C td i∧n'+Psi s C' td' i≤n+Psi s C td i∧n≤n')
  (fun z=>Psi s z.columns z.todo i)
  (fun ρ=>∃ C' n',ρ=E s C' n' []∧Wk s X0 C0 i t ng (fun _=>True) D C' []∧Psi s C' [] i≤Psi s C td i∧n'+Psi s C' [] i≤n+Psi s C td i∧n≤n') ?_ K (E s C n td) ⟨C,n,td,rfl,h,Nat.le_refl _,Nat.le_refl _,Nat.le_refl _⟩ (by show Psi s C td i<K;omega)
 ·obtain ⟨ρ,e1,C',n',rfl,hh⟩:=key
  unfold W5
  rw [e1]
  exact ⟨C',n',rfl,hh⟩
 ·rintro z mm ⟨C',n',td',rfl,k1,k2,k3,k4⟩
  have htd:=Psi_td s C' td' i
  simp only [W5.l0]
  by_cases h0:td'=[]
  ·subst h0
   rw [if_neg (by simp)]
   exact .inl ⟨_,rfl,C',n',rfl,k1,k2,k3,k4⟩
  ·have hpos:0<td'.length:=List.length_pos_iff.2 h0
   have e1:IntKind.wrap .i64 ((td'.length:Int)-1)=((td'.length-1:Nat):Int):=by rw [wr (by omega) (by omega)];omega
   obtain ⟨p,p1,p2⟩:=k1.todo _ (rd_mem' (xs:=td') (show td'.length-1<td'.length by omega))
   have esplit:td'=td'.take (td'.length-1)++[(p:Int)]:=by
    have:=take_succ_rd (xs:=td') (show td'.length-1<td'.length by omega)
    rw [p1,show td'.length-1+1=td'.length by omega,List.take_length] at this
    exact this
   have hw:Wk s X0 C0 i t ng (fun q=>True∧q≠p) D C' (td'.take (td'.length-1)):=by
    refine ⟨k1.shp,k1.len,k1.env,k1.low,k1.nms,k1.oth,k1.ri,k1.snd,fun q hq hv hs=>(k1.cpl q hq trivial hs).imp id fun z=>?_,k1.rul,fun v hv=>k1.todo v (List.mem_of_mem_take hv),k1.ngx,k1.pst⟩
    rw [esplit] at z
    rcases List.mem_append.1 z with z | z
    ·exact z
    ·rw [List.mem_singleton] at z;exact (hv.2 (by omega)).elim
   have hPp:Psi s C' (td'.take (td'.length-1)) i+lkL s i=Psi s C' td' i:=by
    unfold Psi
    rw [List.length_take,Nat.min_eq_left (by omega)]
    have:lkL s i*td'.length=lkL s i*(td'.length-1)+lkL s i:=by
     obtain ⟨q,hq⟩:∃ q,td'.length=q+1:=⟨td'.length-1,by omega⟩
     rw [hq,Nat.mul_add,Nat.mul_one];simp
    omega
   have hlk:2≤lkL s i:=by show 2≤s.w.length-i+2;omega
   obtain ⟨C2,n2,td2,g1,g2,g3,g4,g5⟩:=tLook_spec K hK s hx X0 C0 i hi t ng (fun _=>True) D C' _ p p2 hw n' (by omega) (by omega)
   simp only [e1,p1,Int.toNat_natCast]
   rw [if_pos (by omega),if_pos (by omega),if_pos (by omega),if_pos (by omega),g1,Option.bind_some]
   exact .inr ⟨_,⟨C2,n2,td2,rfl,g2.mono (fun _ _ _=>.inl trivial) (fun _ z=>z),by omega,by omega,by omega⟩,by show Psi s C2 td2 i<Psi s C' td' i;omega,rfl⟩
def actN (s:TS) (t:Int) (ng:Bool) (L:Nat) (p:Nat):Nat:=if plv s p=t∧png s.g p=ng then L else 0
theorem tPass_spec (K:Nat) (hK:1000000≤K) (s:TS) (hx:TX s) (X0 C0:List J0) (i:Nat) (hi:i≤s.w.length) (t:Int) (ng:Bool) (D:Nat→Prop) (u:Int) (hu:rd ([true,false]:List Bool) u=ng) (C:List J0)
  (h:Wk s X0 C0 i t ng (fun _=>False) D C []) (n:Nat) (hn:n+Psi s C [] i+wsum (actN s t ng (lkL s i)) (trip s.g).length+6000≤4611686018427387904) (hP:Psi s C [] i≤500000) :
  ∃ C' n' td' k,W2.l1 K t i u K (E s C n [],IntKind.wrap .i64 ((s.pl.length:Int)-1))=some (E s C' n' td',k)∧Wk s X0 C0 i t ng (fun _=>True) D C' td'∧Psi s C' td' i≤Psi s C [] i∧n'+Psi s C' td' i≤n+Psi s C [] i+wsum (actN s t ng (lkL s i)) (trip s.g).length∧n≤n':=by
 have q2:=hx.pn
 have e0:IntKind.wrap .i64 ((s.pl.length:Int)-1)=((trip s.g).length:Int)-1:=by rw [hx.pll,wr (by omega) (by omega)]
 rw [e0]
 have key:=rounds (σ:=k0×Int) (ρ:=k0×Int) (L:=W2.l1 K t i u)
  (fun z=>∃ (d:Nat) (C':List J0) (n':Nat) (td':List Int),z=(E s C' n' td',(d:Int)-1)∧d≤(trip s.g).length∧Wk s X0 C0 i t ng (fun q=>d≤q) D C' td'∧Psi s C' td' i≤Psi s C [] i∧n'+Psi s C' td' i+wsum (actN s t ng (lkL s i)) d≤n+Psi s C [] i+wsum (actN s t ng (lkL s i)) (trip s.g).length∧n≤n')
  (fun z=>(z.2+1).toNat)
  (fun ρ=>∃ C' n' td' k,ρ=(E s C' n' td',k)∧Wk s X0 C0 i t ng (fun _=>True) D C' td'∧Psi s C' td' i≤Psi s C [] i∧n'+Psi s C' td' i≤n+Psi s C [] i+wsum (actN s t ng (lkL s i)) (trip s.g).length∧n≤n') ?_ K (E s C n [],((trip s.g).length:Int)-1) ⟨(trip s.g).length,C,n,[],rfl,Nat.le_refl _,h.mono (fun p hp hv=>by have:=hp.1;omega) (fun _ z=>z),Nat.le_refl _,Nat.le_refl _,Nat.le_refl _⟩ (by simp;omega)
 ·obtain ⟨ρ,e1,C',n',td',k,rfl,hh⟩:=key
  exact ⟨C',n',td',k,e1,hh⟩
 ·rintro z mm ⟨d,C',n',td',rfl,k1,k2,k3,k4,k5⟩
  simp only [W2.l1]
  cases d with
  | zero =>
   rw [if_neg (by omega)]
   exact .inl ⟨_,rfl,C',n',td',_,rfl,k2.mono (fun _ _ _=>Nat.zero_le _) (fun _ z=>z),k3,by simp only [wsum] at k4;omega,k5⟩
  | succ d =>
   have e1:(((d+1:Nat):Int)-1)=(d:Int):=by omega
   have e2:IntKind.wrap .i64 ((d:Int)-1)=(d:Int)-1:=by rw [wr (by omega) (by omega)]
   have hd:d<(trip s.g).length:=by omega
   simp only [wsum] at k4
   simp only [e1,e2]
   rw [if_pos (by omega),if_pos (by rw [hx.pll];omega),hu]
   simp only [hx.plr hd,mkP]
   by_cases h1:plv s d=t
   ·rw [if_pos h1]
    by_cases h2:png s.g d=ng
    ·rw [if_pos h2]
     have hact:actN s t ng (lkL s i) d=lkL s i:=if_pos ⟨h1,h2⟩
     obtain ⟨C2,n2,td2,g1,g2,g3,g4,g5⟩:=tLook_spec K hK s hx X0 C0 i hi t ng (fun q=>d+1≤q) D C' td' d ⟨hd,h1,h2⟩ (k2.mono (fun _ _ z=>z.1) (fun _ z=>z)) n' (by omega) (by omega)
     rw [g1,Option.bind_some]
     exact .inr ⟨_,⟨d,C2,n2,td2,rfl,by omega,g2.mono (fun q _ z=>(Nat.lt_or_ge d q).elim .inl fun e=>.inr (Nat.le_antisymm e z)) (fun _ z=>z),by omega,by omega,by omega⟩,by simp,rfl⟩
    ·rw [if_neg h2]
     have hact:actN s t ng (lkL s i) d=0:=if_neg fun z=>h2 z.2
     exact .inr ⟨_,⟨d,C',n',td',rfl,by omega,k2.mono (fun q hq z=>(Nat.lt_or_ge d q).elim id fun e=>(h2 (by rw [← Nat.le_antisymm e z];exact hq.2.2)).elim) (fun _ z=>z),k3,by omega,k5⟩,by simp,rfl⟩
   ·rw [if_neg h1]
    have hact:actN s t ng (lkL s i) d=0:=if_neg fun z=>h1 z.1
    exact .inr ⟨_,⟨d,C',n',td',rfl,by omega,k2.mono (fun q hq z=>(Nat.lt_or_ge d q).elim id fun e=>(h1 (by rw [← Nat.le_antisymm e z];exact hq.2.1)).elim) (fun _ z=>z),k3,by omega,k5⟩,by simp,rfl⟩
def rulN (s:TS) (t:Int) (r:Nat):Nat:=if rd s.xs (rd s.g.Rules (r:Int)).Head=t then nc s.g r else 0
theorem tRules_spec (K:Nat) (hK:1000000≤K) (s:TS) (hx:TX s) (X0 C0:List J0) (i:Nat) (hi:i≤s.w.length) (t:Int) (D:Nat→Prop) (o:k0) (ho:o.g.Rules.length=s.g.Rules.length) (C:List J0)
  (h:Wk s X0 C0 i t false (fun _=>True) D C []) (n:Nat) (hn:n+Psi s C [] i+wsum (rulN s t) s.g.Rules.length+6000≤4611686018427387904) (hP:Psi s C [] i≤500000) :
  ∃ C' n' td' k,W2.l2 K t i o K (E s C n [],0)=some (E s C' n' td',k)∧Wk s X0 C0 i t false (fun _=>True) (fun q=>q<s.g.Rules.length) C' td'∧Psi s C' td' i≤Psi s C [] i∧n'+Psi s C' td' i≤n+Psi s C [] i+wsum (rulN s t) s.g.Rules.length∧n≤n':=by
 have q2:=hx.cx.rl
 have key:=rounds (σ:=k0×Int) (ρ:=k0×Int) (L:=W2.l2 K t i o)
  (fun z=>∃ (d:Nat) (C':List J0) (n':Nat) (td':List Int),z=(E s C' n' td',(d:Int))∧d≤s.g.Rules.length∧Wk s X0 C0 i t false (fun _=>True) (fun q=>D q∨q<d) C' td'∧Psi s C' td' i≤Psi s C [] i∧n'+Psi s C' td' i≤n+Psi s C [] i+wsum (rulN s t) d∧n≤n')
  (fun z=>s.g.Rules.length-z.2.toNat)
  (fun ρ=>∃ C' n' td' k,ρ=(E s C' n' td',k)∧Wk s X0 C0 i t false (fun _=>True) (fun q=>q<s.g.Rules.length) C' td'∧Psi s C' td' i≤Psi s C [] i∧n'+Psi s C' td' i≤n+Psi s C [] i+wsum (rulN s t) s.g.Rules.length∧n≤n') ?_ K (E s C n [],0) ⟨0,C,n,[],rfl,Nat.zero_le _,h.mono (fun _ _ z=>z) (fun _ z=>z.elim id fun z=>by omega),Nat.le_refl _,by simp [wsum],Nat.le_refl _⟩ (by simp;omega)
 ·obtain ⟨ρ,e1,C',n',td',k,rfl,hh⟩:=key
  exact ⟨C',n',td',k,e1,hh⟩
 ·rintro z mm ⟨d,C',n',td',rfl,k1,k2,k3,k4,k5⟩
  simp only [W2.l2]
  rw [ho]
  by_cases hd:d<s.g.Rules.length
  ·have e2:IntKind.wrap .i64 ((d:Int)+1)=((d+1:Nat):Int):=by rw [wr (by omega) (by omega)];omega
   have hle:wsum (rulN s t) d+rulN s t d≤wsum (rulN s t) s.g.Rules.length:=by
    have:∀ m,d<m→wsum (rulN s t) d+rulN s t d≤wsum (rulN s t) m:=by
     intro m
     induction m with
     | zero=>intro h;omega
     | succ m ih =>
      intro hm
      simp only [wsum]
      by_cases e:d=m
      ·subst e;omega
      ·have:=ih (by omega);omega
    exact this _ hd
   obtain ⟨C2,n2,td2,g1,g2,g3,g4,g5⟩:=tRule_spec K hK s hx X0 C0 i hi t (fun _=>True) (fun q=>D q∨q<d) C' td' d hd (k2.mono (fun _ _ z=>z) (fun _ z=>z.1)) n' (by omega) (by omega)
   rw [if_pos (by omega),g1,Option.bind_some]
   simp only [e2]
   exact .inr ⟨_,⟨d+1,C2,n2,td2,rfl,hd,g2.mono (fun _ _ z=>z) (fun q z=>z.elim (fun z=>.inl (.inl z)) fun z=>by
    by_cases e:q=d
    ·exact .inr e
    ·exact .inl (.inr (by omega))),by omega,by simp only [wsum];show _≤_+(_+if rd s.xs (rd s.g.Rules (d:Int)).Head=t then nc s.g d else 0);omega,by omega⟩,by simp;omega,rfl⟩
  ·rw [if_neg (by omega)]
   have:d=s.g.Rules.length:=by omega
   subst this
   exact .inl ⟨_,rfl,C',n',td',_,rfl,k2.mono (fun _ _ z=>z) (fun _ z=>.inr z),k3,k4,k5⟩
structure Sq (s:TS) (X0:List J0) (i:Nat) (t:Int) (C:List J0):Prop where
 shp:ShT s C
 len:C.length=s.w.length+1
 env:∀ x a b,¬ (a=i∧b=s.w.length)→(NT C x a b↔NT X0 x a b)
 oth:∀ p a b,¬ (a=i∧b=s.w.length)→(RT C p a b↔RT X0 p a b)
 ri:RI s.g.Names.length s.g.Rules (rd s.xs) (HS (NT X0) (wf s.w) i s.w.length) t fun x=>NT C x i s.w.length
 lo:∀ p,p<(trip s.g).length→plv s p<t→(RT C p i s.w.length↔SeqS (NT C) (wf s.w) (rest s.g p) i s.w.length)
 hi:∀ p,p<(trip s.g).length→t≤plv s p→¬ RT C p i s.w.length
 pst:∀ p,p<(trip s.g).length→∀ k,i<k→k≤s.w.length→(RT C p k s.w.length↔SeqS (NT C) (wf s.w) (rest s.g p) k s.w.length)
def cst (s:TS) (i:Nat) (t:Int):Nat:=wsum (fun p=>if plv s p=t then lkL s i else 0) (trip s.g).length+wsum (rulN s t) s.g.Rules.length
theorem cst_act (s:TS) (t:Int) (L:Nat) (n:Nat):wsum (actN s t true L) n+wsum (actN s t false L) n=wsum (fun p=>if plv s p=t then L else 0) n:=by
 rw [← wsum_add]
 refine wsum_congr fun k _=>?_
 unfold actN
 by_cases h:plv s k=t
 ·cases hn:png s.g k <;> simp [h]
 ·simp [h]
theorem tSpan_spec (K:Nat) (hK:1000000≤K) (s:TS) (hx:TX s) (X0:List J0) (i:Nat) (hi:i≤s.w.length) (t:Int) (C:List J0) (h:Sq s X0 i t C) (n:Nat) (hn:n+Psi s C [] i+cst s i t+6000≤4611686018427387904) (hP:Psi s C [] i≤500000) :
  ∃ C' n',W2 K (E s C n []) t i=some (E s C' n' [])∧Sq s X0 i (t+1) C'∧Psi s C' [] i≤Psi s C [] i∧n'+Psi s C' [] i≤n+Psi s C [] i+cst s i t∧n≤n':=by
 have hca:=cst_act s t (lkL s i) (trip s.g).length
 unfold cst at hn ⊢
 have w1:Wk s X0 C i t true (fun _=>False) (fun _=>True) C []:=⟨h.shp,h.len,h.env,fun _ _ _ _ _=>Iff.rfl,fun _=>rfl,fun _ _ _ _=>Iff.rfl,h.ri,fun p hp hh=>(h.hi p hp.1 (by have:=hp.2.1;omega) hh).elim,fun _ _ z=>z.elim,fun e=>absurd e (by decide),fun v hv=>(by cases hv),fun e=>absurd e (by decide),h.pst⟩
 obtain ⟨C1,n1,td1,k1,e1,w2,p1,b1,m1⟩:=tPass_spec K hK s hx X0 C i hi t true (fun _=>True) 0 rfl C w1 n (by omega) hP
 obtain ⟨C2,n2,e2,w3,p2,b2,m2⟩:=tAgain_spec K hK s hx X0 C i hi t true (fun _=>True) C1 td1 w2 n1 (by omega) (by omega)
 have x2:∀ p,Act s t true p→(RT C2 p i s.w.length↔SeqS (NT C2) (wf s.w) (rest s.g p) i s.w.length):=fun p hp=>w3.exact hp
 have o2:∀ p a b,(a=i∧b=s.w.length→¬ Act s t true p)→(RT C2 p a b↔RT C p a b):=fun p a b hne=>w3.oth p a b fun z=>hne ⟨z.1,z.2.1⟩ z.2.2
 have nN2:NT C2=NT C:=w3.nms rfl
 have w4:Wk s X0 C2 i t false (fun _=>False) (fun r=>∃ c,c<nc s.g r∧(rd (rd s.g.Rules (r:Int)).Conj (c:Int)).Neg=false) C2 []:=by
  have noP:∀ p,Act s t false p→¬ RT C2 p i s.w.length:=fun p hp hh=>h.hi p hp.1 (by have:=hp.2.1;omega) ((o2 p i s.w.length fun _ z=>by have h1:=hp.2.2;have h2:=z.2.2;rw [h1] at h2;cases h2).1 hh)
  refine ⟨w3.shp,w3.len,w3.env,fun _ _ _ _ _=>Iff.rfl,fun e=>absurd e (by decide),fun _ _ _ _=>Iff.rfl,w3.ri,fun p hp hh=>(noP p hp hh).elim,fun _ _ z=>z.elim,fun _ r ⟨c,c1,c2⟩ hr ht hcb=>?_,fun v hv=>(by cases hv),fun _=>x2,w3.pst⟩
  obtain ⟨g1,g2,g3⟩:=bgn_ok hx hr c1
  have:=hcb c c1
  rw [c2] at this
  exact (noP (bgn s r c) ⟨g2,by unfold plv;rw [g3];exact ht,by unfold png;rw [g3];exact c2⟩ (Classical.byContradiction fun z=>by cases this.2 z)).elim
 obtain ⟨C3,n3,td3,k3,e3,w5,p3,b3,m3⟩:=tPass_spec K hK s hx X0 C2 i hi t false _ 1 rfl C2 w4 n2 (by omega) (by omega)
 obtain ⟨C4,n4,e4,w6,p4,b4,m4⟩:=tAgain_spec K hK s hx X0 C2 i hi t false _ C3 td3 w5 n3 (by omega) (by omega)
 obtain ⟨C5,n5,td5,k5,e5,w7,p5,b5,m5⟩:=tRules_spec K hK s hx X0 C2 i hi t _ (E s C4 n4 []) rfl C4 w6 n4 (by omega) (by omega)
 obtain ⟨C6,n6,e6,w8,p6,b6,m6⟩:=tAgain_spec K hK s hx X0 C2 i hi t false _ C5 td5 w7 n5 (by omega) (by omega)
 refine ⟨C6,n6,?_,?_,by omega,by omega,by omega⟩
 ·unfold W2
  obtain ⟨m,rfl⟩:∃ m,K=m+3:=⟨K-3,by omega⟩
  have s0:∀ q:Int,IntKind.wrap .i64 (0+1)=1:=fun _=>by rw [wr (by decide) (by decide)];rfl
  have s1:∀ q:Int,IntKind.wrap .i64 (1+1)=2:=fun _=>by rw [wr (by decide) (by decide)];rfl
  have l0:W2.l0 (m+3) t i (m+3) (E s C n [],0)=some (E s C4 n4 [],2):=by
   rw [show m+3=(m+2)+1 from rfl,W2.l0]
   simp only
   rw [if_pos (by decide),if_pos (by decide),if_pos (by decide)]
   erw [e1]
   rw [Option.bind_some]
   simp only
   erw [e2]
   rw [Option.bind_some,s0 0,W2.l0]
   simp only
   rw [if_pos (by decide),if_pos (by decide),if_pos (by decide)]
   erw [e3]
   rw [Option.bind_some]
   simp only
   erw [e4]
   rw [Option.bind_some,s1 0,W2.l0]
   simp only
   rw [if_neg (by decide)]
  rw [l0,Option.bind_some]
  simp only
  erw [e5]
  rw [Option.bind_some]
  simp only
  erw [e6]
  rfl
 ·have lowN:∀ y:Int,0≤y→rd s.xs y≠t→∀ a b,NT C6 y a b↔NT C y a b:=fun y h0 hne a b=>by rw [w8.low y h0 hne a b,nN2]
  have o6:∀ p a b,(a=i∧b=s.w.length→p<(trip s.g).length→plv s p≠t)→(RT C6 p a b↔RT C p a b):=fun p a b hne=>by
   rw [w8.oth p a b fun z=>hne ⟨z.1,z.2.1⟩ z.2.2.1 z.2.2.2.1]
   exact o2 p a b fun z1 z2=>hne z1 z2.1 z2.2.1
  have all6:∀ p,p<(trip s.g).length→plv s p=t→(RT C6 p i s.w.length↔SeqS (NT C6) (wf s.w) (rest s.g p) i s.w.length):=fun p hp ht=>by
   cases hg:png s.g p with
   | true=>exact w8.ngx rfl p ⟨hp,ht,hg⟩
   | false=>exact w8.exact ⟨hp,ht,hg⟩
  refine ⟨w8.shp,w8.len,w8.env,fun p a b hne=>(o6 p a b fun z=>(hne z).elim).trans (h.oth p a b hne),?_,fun p hp hlt=>?_,fun p hp hlt hh=>?_,w8.pst⟩
  ·refine w8.ri.up fun r hr ht hH=>?_
   obtain ⟨q,hq,rfl⟩:=mem_rd hr
   refine w8.rul rfl q hq hq ht fun c hc=>?_
   unfold HS at hH
   rw [w8.self] at hH
   obtain ⟨g1,g2,g3⟩:=bgn_ok hx hq hc
   have:=all6 (bgn s q c) g2 (by unfold plv;rw [g3];exact ht)
   rw [bgn_rest hx hq hc] at this
   rw [this]
   exact hH _ (rd_mem' hc)
  ·by_cases e:plv s p=t
   ·exact all6 p hp e
   ·rw [o6 p i s.w.length fun _ _=>e,h.lo p hp (by omega)]
    refine SeqS_env fun y hy h0 a b _ _ _=>(lowN y.Name h0 ?_ a b).symm
    have:=(names_lv hx hp (rest_sub hy) h0).2
    split at this <;> omega
  ·exact h.hi p hp (by omega) ((o6 p i s.w.length fun _ _=>by omega).1 hh)
end Go.Proofs.Ytcoineklodmbnaa

