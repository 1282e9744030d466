import Derived.Test.YtohcehphgihplaaGreatW20
namespace Go.Proofs.YtohcehphgihplaaGreat
open S
set_option linter.unusedVariables false
set_option linter.unusedSimpArgs false
set_option maxRecDepth 100000
theorem in_ref (K:Nat) (hK:2000000000≤K) {g:Grammar} {xs:List Int} (ho:StrOut g (xs,[],0)) {w:List Int} {e:P0} (he:EngT g xs w e) (hw:w.length≤32) (hb:Byt w):∃ b,G7 K e=some b∧Ja K g (strL w)=some b:=by
 obtain ⟨b,h1,M,h2,h3⟩:=tIn_spec K he
 obtain ⟨b',h4,N,h5,h6⟩:=rIn_spec K hK ho (strL w) (by rw [strL_size];exact hw)
 have hf:=ho.lvf
 have ew:wf w=RT.wv (strL w):=by
  funext k
  show rd w (k:Int)=bt (strL w) (k:Int)
  rw [bt_strL hb]
 rw [ew] at h2
 rw [strL_size] at h5 h6
 have hm:=hf.may
 have:=PMs.uniq hf.lv hf.l0 h2 h5 0 w.length (Nat.zero_le _) (Nat.le_refl _) g.Start hm.2.1 hm.2.2.1
 have e:b=b':=by
  rw [Bool.eq_iff_iff,h3,h6];exact this
 subst e
 exact ⟨b,h1,h4⟩
theorem feed_eng (K:Nat) (hK:1000000≤K) {g:Grammar} {xs w:List Int} {e:P0} (h:EngT g xs w e) (c:Int) :
  (c<0∨255<c)∧Q6 K e c=some (1500,e)∨(0≤c∧c≤255)∧(w.length=32∨∃ e',Q6 K e c=some (0,e')∧EngT g xs (w++[c]) e'):=by
 rcases tFeed_spec K hK h c with h1 | ⟨h1,h2,_⟩ | ⟨h1,_,e',h2,h3,_⟩
 ·exact .inl h1
 ·exact .inr ⟨h1,.inl h2⟩
 ·exact .inr ⟨h1,.inr ⟨e',h2,h3⟩⟩
theorem byt_snoc {w:List Int} {c:Int} (h:Byt w) (h0:0≤c) (h1:c≤255):Byt (w++[c]):=fun v hv=>by
 rcases List.mem_append.1 hv with hv | hv
 ·exact h v hv
 ·rw [List.mem_singleton] at hv;omega
theorem reads_l1 (K:Nat) (hK:2000000000≤K) (g:Grammar) (cs:List Int) {xs:List Int} (ho:StrOut g (xs,[],0)):∀ (k i m:Nat) (w:List Int) (x:P0),i+k=12→k<m→EngT g xs w x→w.length≤i→Byt w →
  ∃ w' x' j,V3.l1 K g cs m (x,strL w,(i:Int))=some (.inl (x',strL w',j))∧EngT g xs w' x'∧w'.length≤32∧Byt w'
 | 0,i,m,w,x,hi,hm,h,hl,hb=>by
  obtain ⟨m,rfl⟩:∃ q,m=q+1:=⟨m-1,by omega⟩
  simp only [V3.l1]
  by_cases c:(i:Int)<(cs.length:Int)
  ·rw [if_pos c,if_neg (by omega)];exact ⟨w,x,_,rfl,h,by omega,hb⟩
  ·rw [if_neg c];exact ⟨w,x,_,rfl,h,by omega,hb⟩
 | k+1,i,m,w,x,hi,hm,h,hl,hb=>by
  obtain ⟨m,rfl⟩:∃ q,m=q+1:=⟨m-1,by omega⟩
  simp only [V3.l1]
  by_cases c:(i:Int)<(cs.length:Int)
  ·obtain ⟨b,i1,i2⟩:=in_ref K hK ho h (by omega) hb
   have e1:IntKind.wrap .i64 ((i:Int)+1)=((i+1:Nat):Int):=by rw [wr (by omega) (by omega)];omega
   rw [if_pos c,if_pos (by omega),i1,Option.bind_some,i2,Option.bind_some,if_neg (fun h=>h rfl),tLen_spec K h,Option.bind_some,strL_size,if_neg (fun h=>h rfl),if_pos (by omega),e1]
   generalize rd cs (i:Int)=v
   rcases feed_eng K (by omega) h v with ⟨hv,hf⟩ | ⟨hv,hf | ⟨e',hf,he⟩⟩
   ·rw [hf,Option.bind_some]
    simp only
    by_cases c0:v<0
    ·rw [if_pos c0,num_eq,Option.bind_some,if_neg (fun h=>h rfl)]
     exact reads_l1 K hK g cs ho k (i+1) m w x (by omega) (by omega) h (by omega) hb
    ·rw [if_neg c0,if_pos (by omega),num_eq,Option.bind_some,if_neg (fun h=>h rfl)]
     exact reads_l1 K hK g cs ho k (i+1) m w x (by omega) (by omega) h (by omega) hb
   ·omega
   ·rw [hf,Option.bind_some]
    simp only
    rw [if_neg (by omega),if_neg (by omega),strL_size,List.length_singleton,if_pos (by omega),num_eq,Option.bind_some,if_neg (fun h=>h rfl),wb (by omega) (by omega),strL_app]
    exact reads_l1 K hK g cs ho k (i+1) m (w++[v]) e' (by omega) (by omega) he (by rw [List.length_append,List.length_singleton];omega) (byt_snoc hb (by omega) (by omega))
  ·rw [if_neg c];exact ⟨w,x,_,rfl,h,by omega,hb⟩
theorem Reads_true (K:Nat) (hK:KW≤K) (g:Grammar) (hg:SzG g) (cs:List Int):V3 K g cs=some true:=by
 have hK':140737488355328≤K:=hK
 have eg:(⟨g.Start,g.Names,g.Rules⟩:Grammar)=g:=rfl
 have e0:(⟨#[]⟩:ByteArray)=strL []:=rfl
 unfold V3
 rw [Copy_spec K hK g hg,Option.bind_some,eg]
 rcases tNew_spec K (by omega) g with ⟨s,h1,h2,h3⟩ | ⟨xs,e,h1,h2,h3⟩
 ·rw [h3,Option.bind_some]
  simp only
  rw [rNew_bad K (by omega) h1 h2,Option.bind_some]
  simp only
  rw [SameGrammar_refl K hK g hg,Option.bind_some,if_neg (by simp),if_pos (by decide),num_eq,Option.bind_some,if_pos rfl,awake_true K (by omega)]
  rfl
 ·have hf:=h1.lvf
  obtain ⟨s',k1,k2⟩:=rStrata_spec K (by omega) g
  have es:=k2.uniq h1
  subst es
  obtain ⟨ms,qs,n1,_,_⟩:=RT.NewTable_ok K (by omega) g xs hf k1 (⟨#[]⟩:ByteArray) (by decide)
  obtain ⟨sp,hsp⟩:=Spoil_spec K (by omega) g hf.may (fun s hs=>by have:=(hf.may.1.2.2.1 s hs).2.1;omega)
  obtain ⟨w',x',j,r1,r2,r3,r4⟩:=reads_l1 K (by omega) g cs h1 12 0 K [] e rfl (by omega) h3 (Nat.le_refl _) (fun v hv=>by cases hv)
  obtain ⟨b,i1,i2⟩:=in_ref K (by omega) h1 r2 r3 r4
  rw [h2,Option.bind_some]
  simp only
  rw [n1,Option.bind_some]
  simp only
  rw [SameGrammar_refl K hK g hg,Option.bind_some,if_neg (by simp),if_neg (fun h=>h rfl),num_eq,Option.bind_some,if_neg (fun h=>h rfl),hsp,Option.bind_some,e0]
  erw [r1]
  simp only [brk,Option.bind_some]
  rw [i1,Option.bind_some,i2,Option.bind_some,if_pos rfl,tLen_spec K r2,Option.bind_some,strL_size,if_pos rfl,awake_true K (by omega)]
  rfl
theorem TableReads_holds (g:Grammar) (cs:List Int) (w:Gf g) {p:Prop} (_:p):∃ K,V3 K g cs=some true:=⟨KW,Reads_true KW (Nat.le_refl _) g (SzG_wf w) cs⟩
end Go.Proofs.YtohcehphgihplaaGreat

