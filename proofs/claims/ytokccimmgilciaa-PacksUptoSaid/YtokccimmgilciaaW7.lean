import Derived.Test.YtokccimmgilciaaW6
namespace Go.Proofs.Ytokccimmgilciaa
open S
set_option linter.unusedVariables false
set_option linter.unusedSimpArgs false
set_option maxRecDepth 100000
def nx (n:Nat) (o:Option (List Int)):Option (List Int):=(o.bind (pnum n)).map (·.2)
def vl (n:Nat) (o:Option (List Int)):Int:=((o.bind (pnum n)).map (·.1)).getD 0
theorem chain {β:Type} (n:Nat) (o:Option (List Int)) (G:Int×List Int→Option β):(o.bind fun L=>(pnum n L).bind G)=(nx n o).bind fun L=>G (vl n o,L):=by
 cases o with
 | none=>rfl
 | some L =>
  simp only [Option.bind_some,nx,vl]
  cases pnum n L <;> rfl
theorem val_range {bs:List Int} (h:Byt bs):0≤val bs∧val bs<256 ^ bs.length:=by
 induction hn:bs.length generalizing bs with
 | zero=>have:=List.length_eq_zero_iff.1 hn;subst this;simp [val]
 | succ n ih =>
  obtain ⟨zs,b,rfl⟩:∃ zs b,bs=zs++[b]:=⟨bs.dropLast,bs.getLast (by intro e;subst e;cases hn),(List.dropLast_concat_getLast _).symm⟩
  obtain ⟨h1,h2⟩:=byt_app.1 h
  obtain ⟨b0,b1⟩:=h2 b (by simp)
  obtain ⟨g0,g1⟩:=ih h1 (by simpa using hn)
  rw [val_app,Int.pow_succ]
  omega
theorem byt_take {L:List Int} (h:Byt L) (n:Nat):Byt (L.take n):=fun v hv=>h v (List.mem_of_mem_take hv)
theorem byt_drop {L:List Int} (h:Byt L) (n:Nat):Byt (L.drop n):=fun v hv=>h v (List.mem_of_mem_drop hv)
theorem vl_range (n:Nat) (o:Option (List Int)) (h:∀ L,o=some L→Byt L):0≤vl n o∧vl n o<256 ^ n:=by
 have hpos:(0:Int)<256 ^ n:=by have:=Nat.pow_pos (n:=n) (show 0<256 by decide);exact_mod_cast this
 unfold vl
 cases o with
 | none=>exact ⟨Int.le_refl _,hpos⟩
 | some L =>
  simp only [Option.bind_some,pnum]
  split
  ·exact ⟨Int.le_refl _,hpos⟩
  ·have:=val_range (byt_take (h L rfl) n)
   rw [List.length_take,Nat.min_eq_left (by omega)] at this
   exact this
def St (o:Option (List Int)) (r:Pack_reader):Prop:=match o with
 | none=>r.bad=true
 | some L=>r.bad=false∧bytesL r.s=L
theorem St.byt {o:Option (List Int)} {r:Pack_reader} (h:St o r):∀ L,o=some L→Byt L:=by
 rintro L rfl
 rw [← h.2];exact bytesL_byt _
theorem rnum_any (K:Nat) (hK:6≤K) (r:Pack_reader) (o:Option (List Int)) (h:St o r) (hsz:r.s.size≤1099511627776) (n:Nat) (hn:n≤4):∃ r',M0 K r n=some (vl n o,r')∧St (nx n o) r'∧r'.s.size≤r.s.size:=by
 cases o with
 | none=>exact ⟨_,rnum_bad K r h n,rfl,Nat.le_refl _⟩
 | some L =>
  obtain ⟨hb,rfl⟩:=h
  by_cases hlt:r.s.size<n
  ·refine ⟨⟨r.s,true⟩,?_,?_,Nat.le_refl _⟩
   ·have:pnum n (bytesL r.s)=none:=by unfold pnum;rw [bytesL_length,if_pos hlt]
    unfold M0 vl
    rw [hb,if_neg (by decide),Option.bind_some,decide_eq_true (by omega),if_pos rfl,Option.bind_some,this]
    rfl
   ·have:pnum n (bytesL r.s)=none:=by unfold pnum;rw [bytesL_length,if_pos hlt]
    unfold nx St
    rw [Option.bind_some,this];rfl
  ·obtain ⟨v,r',h1,h2,h3⟩:=rnum_spec K hK r hb hsz n hn
   have hp:pnum n (bytesL r.s)=some (val ((bytesL r.s).take n),(bytesL r.s).drop n):=by unfold pnum;rw [bytesL_length,if_neg hlt]
   rw [hp] at h2
   obtain ⟨rfl,h4,h5⟩:=h2
   refine ⟨r',?_,?_,h3⟩
   ·rw [h1];unfold vl;rw [Option.bind_some,hp];rfl
   ·unfold nx;rw [Option.bind_some,hp];exact ⟨h4,h5⟩
theorem as_int (K:Nat) (xs:List Int) (h:xs.length≤4294967296) (hK:xs.length<K):W5 K xs=some xs:=by
 obtain ⟨t,h1⟩:=as_loop xs (W5.l0 K xs) 8 (fun m xs t=>by simp only [W5.l0]) (by omega) (by omega) K hK
 unfold W5 slices_Clip_int_int
 rw [h1];simp [sl]
theorem as_pick (K:Nat) (xs:List Pick) (h:xs.length≤4294967296) (hK:xs.length<K) (hb:(xs.length+1)*40≤140737488355328):j5 K xs=some xs:=by
 obtain ⟨t,h1⟩:=as_loop xs (j5.l0 K xs) 40 (fun m xs t=>by simp only [j5.l0]) hb (by omega) K hK
 unfold j5 slices_Clip_api_Pick_api_Pick
 rw [h1];simp [sl]
theorem as_node (K:Nat) (xs:List Node) (h:xs.length≤4294967296) (hK:xs.length<K) (hb:(xs.length+1)*96≤140737488355328):k5 K xs=some xs:=by
 obtain ⟨t,h1⟩:=as_loop xs (k5.l0 K xs) 96 (fun m xs t=>by simp only [k5.l0]) hb (by omega) K hK
 unfold k5 slices_Clip_api_Node_api_Node
 rw [h1];simp [sl]
theorem kid_spec (K:Nat) (hK:6≤K) (r:Pack_reader) (hb:r.bad=false) (hsz:r.s.size≤1099511627776):∃ v r',j9 K r=some (v,r')∧Out (pnum 4 (bytesL r.s)) v r'∧r'.s.size≤r.s.size:=by
 obtain ⟨v,r',h1,h2,h3⟩:=rnum_spec K hK r hb hsz 4 (by omega)
 refine ⟨v,⟨r'.s,r'.bad⟩,?_,h2,h3⟩
 unfold j9
 have:M0 K (⟨r.s,r.bad⟩:Pack_reader) 4=some (v,r'):=h1
 rw [this];rfl
theorem manykid_spec (K:Nat) (hK:70000≤K) (r:Pack_reader) (o:Option (List Int)) (h:St o r) (hsz:r.s.size≤1099511627776) (N:Nat) (hN:N≤65536):∃ xs r',f5 K r (N:Int)=some (xs,r')∧r'.s.size≤r.s.size∧xs.length≤N∧Out (o.bind (pmany (pnum 4) N)) xs r':=by
 cases o with
 | none =>
  obtain ⟨m,rfl⟩:∃ m,K=m+1:=⟨K-1,by omega⟩
  have hb:r.bad=true:=h
  refine ⟨[],⟨r.s,true⟩,?_,Nat.le_refl _,by simp,rfl⟩
  unfold f5
  rw [hb,many_bad (f5.l0 (m+1)) (j9 (m+1)) (fun m xs s b n=>by simp only [f5.l0]) m r.s N]
  rfl
 | some L =>
  obtain ⟨hb,rfl⟩:=h
  obtain ⟨xs,s,b,n,h1,h2,h3,h4⟩:=many_loop (f5.l0 K) (j9 K) (pnum 4) (fun m xs s b n=>by simp only [f5.l0]) 1099511627776 (fun r hb hs=>kid_spec K (by omega) r hb hs) N (by omega) r hb hsz K (by omega)
  refine ⟨xs,⟨s,b⟩,?_,h3,h4,h2⟩
  unfold f5
  rw [h1];rfl
theorem pick_spec (K:Nat) (hK:70000≤K) (r:Pack_reader) (hb:r.bad=false) (hsz:r.s.size≤1099511627776):∃ v r',k8 K r=some (v,r')∧Out (ppick (bytesL r.s)) v r'∧r'.s.size≤r.s.size:=by
 have s0:St (some (bytesL r.s)) r:=⟨hb,rfl⟩
 obtain ⟨r1,e1,s1,z1⟩:=rnum_any K (by omega) r _ s0 hsz 2 (by omega)
 obtain ⟨r2,e2,s2,z2⟩:=rnum_any K (by omega) r1 _ s1 (by omega) 1 (by omega)
 obtain ⟨r3,e3,s3,z3⟩:=rnum_any K (by omega) r2 _ s2 (by omega) 1 (by omega)
 obtain ⟨n0,n1⟩:=vl_range 1 _ s2.byt
 obtain ⟨N,hN⟩:=Int.eq_ofNat_of_zero_le n0
 have hN1:N<256:=by rw [hN] at n1;have:(256:Int) ^ 1=256:=rfl;omega
 obtain ⟨xs,r4,e4,z4,l4,h4⟩:=manykid_spec K hK r3 _ s3 (by omega) N (by omega)
 have e1':M0 K (⟨r.s,r.bad⟩:Pack_reader) 2=some (_,r1):=e1
 have e2':M0 K (⟨r1.s,r1.bad⟩:Pack_reader) 1=some (_,r2):=e2
 have e3':M0 K (⟨r2.s,r2.bad⟩:Pack_reader) 1=some (_,r3):=e3
 have e4':f5 K (⟨r3.s,r3.bad⟩:Pack_reader) (N:Int)=some (xs,r4):=e4
 refine ⟨(⟨vl 2 (some (bytesL r.s)),vl 1 (nx 2 (some (bytesL r.s))),xs⟩:Pick),⟨r4.s,r4.bad⟩,?_,?_,by simp only;omega⟩
 ·unfold k8
  rw [e1',Option.bind_some,e2',Option.bind_some,e3',Option.bind_some,hN,e4',Option.bind_some,as_int K xs (by omega) (by omega),Option.bind_some]
 ·have hp:ppick (bytesL r.s)=((nx 1 (nx 1 (nx 2 (some (bytesL r.s))))).bind fun L=>(pmany (pnum 4) N L).bind fun k=>some (⟨vl 2 (some (bytesL r.s)),vl 1 (nx 2 (some (bytesL r.s))),k.1⟩,k.2)):=by
   show ((some (bytesL r.s)).bind ppick)=_
   unfold ppick
   simp only [chain]
   rw [hN];rfl
  rw [hp]
  cases ho:nx 1 (nx 1 (nx 2 (some (bytesL r.s)))) with
  | none=>rw [ho] at h4;exact h4
  | some L =>
   rw [ho] at h4
   simp only [Option.bind_some] at h4 ⊢
   cases hm:pmany (pnum 4) N L with
   | none=>rw [hm] at h4;exact h4
   | some q =>
    rw [hm] at h4
    obtain ⟨rfl,g2,g3⟩:=h4
    exact ⟨rfl,g2,g3⟩
theorem manypick_spec (K:Nat) (hK:70000≤K) (r:Pack_reader) (o:Option (List Int)) (h:St o r) (hsz:r.s.size≤1099511627776) (N:Nat) (hN:N≤65536):∃ xs r',V3 K r (N:Int)=some (xs,r')∧r'.s.size≤r.s.size∧xs.length≤N∧Out (o.bind (pmany ppick N)) xs r':=by
 cases o with
 | none =>
  obtain ⟨m,rfl⟩:∃ m,K=m+1:=⟨K-1,by omega⟩
  have hb:r.bad=true:=h
  refine ⟨[],⟨r.s,true⟩,?_,Nat.le_refl _,by simp,rfl⟩
  unfold V3
  rw [hb,many_bad (V3.l0 (m+1)) (k8 (m+1)) (fun m xs s b n=>by simp only [V3.l0]) m r.s N]
  rfl
 | some L =>
  obtain ⟨hb,rfl⟩:=h
  obtain ⟨xs,s,b,n,h1,h2,h3,h4⟩:=many_loop (V3.l0 K) (k8 K) ppick (fun m xs s b n=>by simp only [V3.l0]) 1099511627776 (fun r hb hs=>pick_spec K hK r hb hs) N (by omega) r hb hsz K (by omega)
  refine ⟨xs,⟨s,b⟩,?_,h3,h4,h2⟩
  unfold V3
  rw [h1];rfl
theorem pnode_eq (L:List Int):pnode L=(some L).bind pnode:=rfl
theorem gnode_spec (K:Nat) (hK:70000≤K) (r:Pack_reader) (hb:r.bad=false) (hsz:r.s.size≤1099511627776):∃ v r',f8 K r=some (v,r')∧Out (pnode (bytesL r.s)) v r'∧r'.s.size≤r.s.size:=by
 have s0:St (some (bytesL r.s)) r:=⟨hb,rfl⟩
 obtain ⟨r1,e1,s1,z1⟩:=rnum_any K (by omega) r _ s0 hsz 1 (by omega)
 obtain ⟨r2,e2,s2,z2⟩:=rnum_any K (by omega) r1 _ s1 (by omega) 1 (by omega)
 obtain ⟨r3,e3,s3,z3⟩:=rnum_any K (by omega) r2 _ s2 (by omega) 2 (by omega)
 obtain ⟨r4,e4,s4,z4⟩:=rnum_any K (by omega) r3 _ s3 (by omega) 2 (by omega)
 obtain ⟨r5,e5,s5,z5⟩:=rnum_any K (by omega) r4 _ s4 (by omega) 1 (by omega)
 obtain ⟨r6,e6,s6,z6⟩:=rnum_any K (by omega) r5 _ s5 (by omega) 1 (by omega)
 obtain ⟨r7,e7,s7,z7⟩:=rnum_any K (by omega) r6 _ s6 (by omega) 1 (by omega)
 obtain ⟨r8,e8,s8,z8⟩:=rnum_any K (by omega) r7 _ s7 (by omega) 1 (by omega)
 obtain ⟨r9,e9,s9,z9⟩:=rnum_any K (by omega) r8 _ s8 (by omega) 4 (by omega)
 obtain ⟨r10,e10,s10,z10⟩:=rnum_any K (by omega) r9 _ s9 (by omega) 2 (by omega)
 obtain ⟨n0,n1⟩:=vl_range 2 _ s9.byt
 rw [pnode_eq]
 unfold pnode
 simp only [chain]
 generalize hO0:(some (bytesL r.s):Option (List Int))=O0 at *
 generalize hv1:vl 1 O0=v1 at *
 generalize hO1:nx 1 O0=O1 at *
 generalize hv2:vl 1 O1=v2 at *
 generalize hO2:nx 1 O1=O2 at *
 generalize hv3:vl 2 O2=v3 at *
 generalize hO3:nx 2 O2=O3 at *
 generalize hv4:vl 2 O3=v4 at *
 generalize hO4:nx 2 O3=O4 at *
 generalize hv5:vl 1 O4=v5 at *
 generalize hO5:nx 1 O4=O5 at *
 generalize hv6:vl 1 O5=v6 at *
 generalize hO6:nx 1 O5=O6 at *
 generalize hv7:vl 1 O6=v7 at *
 generalize hO7:nx 1 O6=O7 at *
 generalize hv8:vl 1 O7=v8 at *
 generalize hO8:nx 1 O7=O8 at *
 generalize hv9:vl 4 O8=v9 at *
 generalize hO9:nx 4 O8=O9 at *
 generalize hv10:vl 2 O9=v10 at *
 generalize hO10:nx 2 O9=O10 at *
 obtain ⟨N,rfl⟩:=Int.eq_ofNat_of_zero_le n0
 have hN1:N<65536:=by have:(256:Int) ^ 2=65536:=rfl;omega
 obtain ⟨xs,r11,e11,z11,l11,h11⟩:=manypick_spec K hK r10 _ s10 (by omega) N (by omega)
 have e1':M0 K (⟨r.s,r.bad⟩:Pack_reader) 1=some (_,r1):=e1
 have e2':M0 K (⟨r1.s,r1.bad⟩:Pack_reader) 1=some (_,r2):=e2
 have e3':M0 K (⟨r2.s,r2.bad⟩:Pack_reader) 2=some (_,r3):=e3
 have e4':M0 K (⟨r3.s,r3.bad⟩:Pack_reader) 2=some (_,r4):=e4
 have e5':M0 K (⟨r4.s,r4.bad⟩:Pack_reader) 1=some (_,r5):=e5
 have e6':M0 K (⟨r5.s,r5.bad⟩:Pack_reader) 1=some (_,r6):=e6
 have e7':M0 K (⟨r6.s,r6.bad⟩:Pack_reader) 1=some (_,r7):=e7
 have e8':M0 K (⟨r7.s,r7.bad⟩:Pack_reader) 1=some (_,r8):=e8
 have e9':M0 K (⟨r8.s,r8.bad⟩:Pack_reader) 4=some (_,r9):=e9
 have e10':M0 K (⟨r9.s,r9.bad⟩:Pack_reader) 2=some (_,r10):=e10
 have e11':V3 K (⟨r10.s,r10.bad⟩:Pack_reader) (N:Int)=some (xs,r11):=e11
 unfold f8
 rw [e1',Option.bind_some,e2',Option.bind_some,e3',Option.bind_some,e4',Option.bind_some,e5',Option.bind_some,e6',Option.bind_some,e7',Option.bind_some,e8',Option.bind_some,e9',Option.bind_some,e10',Option.bind_some,e11',Option.bind_some,as_pick K xs (by omega) (by omega) (by omega),Option.bind_some]
 simp only
 have hbad:r11.bad=true→(∃ v r',(if r11.bad=true then some ((⟨decide (v1=1),v2,v3,⟨v4,v5,v6⟩,v7,v8,v9,xs⟩:Node),(⟨r11.s,true⟩:Pack_reader)) else if 1<v1 then some ((⟨decide (v1=1),v2,v3,⟨v4,v5,v6⟩,v7,v8,v9,xs⟩:Node),(⟨r11.s,true⟩:Pack_reader)) else (p8 K (⟨decide (v1=1),v2,v3,⟨v4,v5,v6⟩,v7,v8,v9,xs⟩:Node)).bind fun r_30=>some ((⟨decide (v1=1),v2,v3,⟨v4,v5,v6⟩,v7,v8,v9,xs⟩:Node),(⟨r11.s,!r_30⟩:Pack_reader)))=some (v,r')∧Out (T:=Node) none v r'∧r'.s.size≤r.s.size):=by
  intro hb
  rw [if_pos hb]
  exact ⟨_,_,rfl,rfl,by simp only;omega⟩
 cases O10 with
 | none=>exact hbad h11
 | some L =>
  simp only [Option.bind_some,Int.toNat_natCast] at h11 ⊢
  cases hm:pmany ppick N L with
  | none=>rw [hm] at h11;exact hbad h11
  | some q =>
   rw [hm] at h11
   obtain ⟨rfl,g2,g3⟩:=h11
   simp only [Option.bind_some]
   rw [g2,if_neg (by decide)]
   by_cases hv:1<v1
   ·have ht:nodeT v1 ⟨sg v1,v2,v3,⟨v4,v5,v6⟩,v7,v8,v9,q.1⟩=false:=by unfold nodeT;rw [decide_eq_false];exact fun h=>by have:=h.1;omega
    rw [if_pos hv,ht]
    exact ⟨_,_,rfl,rfl,by simp only;omega⟩
   ·rw [if_neg hv]
    obtain ⟨b,b1,b2⟩:=shape_spec K (⟨decide (v1=1),v2,v3,⟨v4,v5,v6⟩,v7,v8,v9,q.1⟩:Node)
    rw [b1,Option.bind_some]
    refine ⟨_,_,rfl,?_,by simp only;omega⟩
    cases b with
    | true =>
     have ht:nodeT v1 ⟨sg v1,v2,v3,⟨v4,v5,v6⟩,v7,v8,v9,q.1⟩=true:=by unfold nodeT;rw [decide_eq_true];exact ⟨by omega,b2.1 rfl⟩
     rw [ht];exact ⟨rfl,rfl,g3⟩
    | false =>
     have ht:nodeT v1 ⟨sg v1,v2,v3,⟨v4,v5,v6⟩,v7,v8,v9,q.1⟩=false:=by unfold nodeT;rw [decide_eq_false];exact fun h=>by have:=b2.2 h.2;cases this
     rw [ht];exact rfl
theorem manynode_spec (K:Nat) (hK:70000≤K) (r:Pack_reader) (o:Option (List Int)) (h:St o r) (hsz:r.s.size≤1099511627776) (N:Nat) (hN:N≤4294967296) (hN':o=none∨N≤65536):∃ xs r',t4 K r (N:Int)=some (xs,r')∧xs.length≤65536∧Out (o.bind (pmany pnode N)) xs r':=by
 cases o with
 | none =>
  obtain ⟨m,rfl⟩:∃ m,K=m+1:=⟨K-1,by omega⟩
  have hb:r.bad=true:=h
  refine ⟨[],⟨r.s,true⟩,?_,by simp,rfl⟩
  unfold t4
  rw [hb,many_bad (t4.l0 (m+1)) (f8 (m+1)) (fun m xs s b n=>by simp only [t4.l0]) m r.s N]
  rfl
 | some L =>
  have hN'':N≤65536:=hN'.resolve_left (by simp)
  obtain ⟨hb,rfl⟩:=h
  obtain ⟨xs,s,b,n,h1,h2,h3,h4⟩:=many_loop (t4.l0 K) (f8 K) pnode (fun m xs s b n=>by simp only [t4.l0]) 1099511627776 (fun r hb hs=>gnode_spec K hK r hb hs) N (by omega) r hb hsz K (by omega)
  refine ⟨xs,⟨s,b⟩,?_,by omega,h2⟩
  unfold t4
  rw [h1];rfl
theorem cut_spec (K:Nat) (s:ByteArray):strings_CutPrefix K s (⟨#[84,67]⟩:ByteArray)=some (if (bytesL s).take 2=[84,67] then (sls s 2 s.size,true) else (s,false)):=by
 have h84:(⟨#[84,67]⟩:ByteArray)=strL [84,67]:=by decide
 have hb:Byt [84,67]:=by intro v hv;simp at hv;rcases hv with rfl | rfl <;> decide
 have hl:=bytesL_length s
 unfold strings_CutPrefix internal_stringslite_CutPrefix internal_stringslite_HasPrefix
 rw [h84]
 have hz:((strL [84,67]).size:Int)=2:=by rw [strL_size];rfl
 simp only [hz]
 by_cases h2:2≤s.size
 ·rw [if_pos (by omega)]
  have hq:(sls s 0 2=strL [84,67])↔(bytesL s).take 2=[84,67]:=by
   have e:=bytesL_sls s 0 2
   simp only [Int.toNat_zero,List.drop_zero] at e
   constructor
   ·intro h;rw [h,byt_back hb] at e;exact e.symm
   ·intro h
    have:strL (bytesL (sls s 0 2))=strL [84,67]:=by rw [e];exact congrArg strL h
    rwa [strL_bytesL] at this
  by_cases hp:(bytesL s).take 2=[84,67]
  ·have:=hq.2 hp
   rw [if_pos hp]
   simp only [Option.bind_some]
   rw [decide_eq_true this,if_neg (by decide),if_pos (by omega)]
   rfl
  ·have:¬ sls s 0 2=strL [84,67]:=fun h=>hp (hq.1 h)
   rw [if_neg hp]
   simp only [Option.bind_some]
   rw [decide_eq_false this,if_pos (by decide)]
   rfl
 ·have hn:¬ (bytesL s).take 2=[84,67]:=by
   intro h
   have:=congrArg List.length h
   rw [List.length_take] at this
   simp at this
   omega
  rw [if_neg hn,if_neg (by omega)]
  rfl
theorem Get_spec (K:Nat) (hK:70000≤K) (s:ByteArray):M7 K s=some (getR (bytesL s)):=by
 have hl:=bytesL_length s
 unfold M7 getR
 by_cases hbig:1048576<s.size
 ·rw [if_pos (by omega),if_pos (by omega)]
 ·rw [if_neg (by omega),if_neg (by omega),cut_spec,Option.bind_some]
  obtain ⟨r0,o0,hr0,s0,z0,hcert⟩:∃ (r0:Pack_reader) (o0:Option (List Int)),(⟨(if (bytesL s).take 2=[84,67] then (sls s 2 s.size,true) else (s,false)).1,!(if (bytesL s).take 2=[84,67] then (sls s 2 s.size,true) else (s,false)).2⟩:Pack_reader)=r0∧St o0 r0∧r0.s.size≤1099511627776∧pcert (bytesL s)=(o0.bind fun L=>(pnum 4 L).bind fun r=>(pnum 4 r.2).bind fun n=>bif decide (n.1≤65536) then (pmany pnode n.1.toNat n.2).bind fun q=>some (⟨r.1,q.1⟩,q.2) else none):=by
   by_cases hp:(bytesL s).take 2=[84,67]
   ·have hls:bytesL (sls s 2 s.size)=(bytesL s).drop 2:=by
     rw [bytesL_sls,Int.toNat_natCast,← bytesL_length,List.take_length];rfl
    refine ⟨_,some ((bytesL s).drop 2),rfl,?_,?_,?_⟩
    ·rw [if_pos hp];exact ⟨rfl,hls⟩
    ·rw [if_pos hp]
     have:=congrArg List.length hls
     rw [bytesL_length,List.length_drop] at this
     simp only;omega
    ·unfold pcert;rw [if_pos hp];rfl
   ·refine ⟨_,none,rfl,?_,?_,?_⟩
    ·rw [if_neg hp];rfl
    ·rw [if_neg hp];simp only;omega
    ·unfold pcert;rw [if_neg hp];rfl
  rw [hr0,hcert]
  obtain ⟨r1,e1,s1,z1⟩:=rnum_any K (by omega) r0 o0 s0 z0 4 (by omega)
  obtain ⟨r2,e2,s2,z2⟩:=rnum_any K (by omega) r1 _ s1 (by omega) 4 (by omega)
  obtain ⟨n0,n1⟩:=vl_range 4 _ s1.byt
  simp only [chain]
  generalize hv1:vl 4 o0=v1 at *
  generalize hO1:nx 4 o0=O1 at *
  generalize hv2:vl 4 O1=v2 at *
  generalize hO2:nx 4 O1=O2 at *
  obtain ⟨N,rfl⟩:=Int.eq_ofNat_of_zero_le n0
  have hN1:N<4294967296:=by have:(256:Int) ^ 4=4294967296:=rfl;omega
  have e2':M0 K (⟨r1.s,r1.bad⟩:Pack_reader) 4=some (_,r2):=e2
  rw [show M0 K r0 4=some (v1,r1) from e1,Option.bind_some,e2',Option.bind_some]
  have hc:(if r2.bad=true then some true else some (decide ((65536:Int)<(N:Int))))=some (decide (r2.bad=true∨65536<N)):=by
   have hd:decide ((65536:Int)<(N:Int))=decide (65536<N):=decide_eq_decide.2 (by omega)
   rw [hd]
   cases r2.bad <;> simp
  rw [hc,Option.bind_some]
  have s3:St (if 65536<N then none else O2) (⟨r2.s,decide (r2.bad=true∨65536<N)⟩:Pack_reader):=by
   by_cases hN2:65536<N
   ·rw [if_pos hN2];simp [St,hN2]
   ·rw [if_neg hN2]
    cases O2 with
    | none =>
         have:r2.bad=true:=s2
         simp [St,this]
    | some L =>
     obtain ⟨g1,g2⟩:=s2
     exact ⟨by simp [g1,hN2],g2⟩
  obtain ⟨xs,r3,e3,l3,h3⟩:=manynode_spec K hK _ _ s3 (by simp only;omega) N (by omega) (by
   by_cases hN2:65536<N
   ·left;rw [if_pos hN2]
   ·right;omega)
  rw [e3,Option.bind_some,as_node K xs (by omega) (by omega) (by omega),Option.bind_some]
  simp only
  by_cases hN2:65536<N
  ·rw [if_pos hN2] at h3
   have h3':r3.bad=true:=h3
   rw [if_pos h3']
   cases O2 with
   | none=>rfl
   | some L=>simp only [Option.bind_some];rw [decide_eq_false (by omega)];rfl
  ·rw [if_neg hN2] at h3
   cases O2 with
   | none =>
    have h3':r3.bad=true:=h3
    rw [if_pos h3'];rfl
   | some L =>
    simp only [Option.bind_some,Int.toNat_natCast] at h3 ⊢
    rw [decide_eq_true (by omega),cond_true]
    cases hm:pmany pnode N L with
    | none =>
     rw [hm] at h3
     have h3':r3.bad=true:=h3
     rw [if_pos h3'];rfl
    | some q =>
     rw [hm] at h3
     obtain ⟨rfl,g2,g3⟩:=h3
     rw [g2,if_neg (by decide)]
     simp only [Option.bind_some]
     have hne:(r3.s≠(⟨#[]⟩:ByteArray))↔q.2≠[]:=by
      rw [← g3]
      constructor
      ·intro h h';apply h;rw [← strL_bytesL r3.s,h'];rfl
      ·intro h h';apply h;rw [h'];rfl
     cases hq:q.2 with
     | nil =>
      rw [if_neg (fun h=>hne.1 h hq)]
     | cons a l =>
      rw [if_pos (hne.2 (by rw [hq];simp))]
abbrev RR:=J0
def SR (o:Option (List Int)) (r:RR):Prop:=match o with
 | none=>r.bad=true
 | some L=>r.bad=false∧0≤r.at_∧r.at_≤(r.s.size:Int)∧(bytesL r.s).drop r.at_.toNat=L
theorem SR.byt {o:Option (List Int)} {r:RR} (h:SR o r):∀ L,o=some L→Byt L:=by
 rintro L rfl
 rw [← h.2.2.2];exact byt_drop (bytesL_byt _) _
theorem rrnum_l0 (K:Nat) (r:RR) (L:List Int) (h0:0≤r.at_) (h1:r.at_≤(r.s.size:Int)) (hL:(bytesL r.s).drop r.at_.toNat=L) (hsz:r.s.size≤1099511627776) (n:Nat) (hn:n≤4) (hl:n≤L.length) (m:Nat) (hm:n<m):∃ t,P0.l0 K r n m (0,0)=some (val (L.take n),t):=by
 have hll:L.length+r.at_.toNat=r.s.size:=by rw [← hL,List.length_drop,bytesL_length];omega
 have:=rounds (L:=P0.l0 K r n) (fun s=>∃ t:Nat,s.2=t∧t≤n∧s.1=val (L.take t)∧0≤s.1∧s.1<256 ^ t) (fun s=>n-s.2.toNat) (fun q=>q.1=val (L.take n)) (fun s m hI=>?_) m (0,0) ⟨0,rfl,by omega,by simp [val],by simp,by simp⟩ (by simp only [Int.toNat_zero];omega)
 ·obtain ⟨⟨x,t⟩,h1,h2⟩:=this
  exact ⟨t,by rw [h1];simp only at h2;rw [h2]⟩
 obtain ⟨x,t'⟩:=s
 obtain ⟨t,rfl,ht,hx,hx0,hx1⟩:=hI
 simp only at hx hx0 hx1
 simp only [P0.l0]
 by_cases hlt:(t:Int)<n
 ·have hlt':t<n:=by omega
  have hby:Byt L:=by rw [← hL];exact byt_drop (bytesL_byt _) _
  obtain ⟨b0,b1⟩:=hby (rd L (t:Int)) (rd_mem (Int.natCast_nonneg t) (by omega))
  have hx2:x<16777216:=by
   have:t≤3:=by omega
   have:(256:Int) ^ t≤256 ^ 3:=by exact_mod_cast Nat.pow_le_pow_right (by decide) this
   have:(256:Int) ^ 3=16777216:=rfl
   omega
  have hb:bt r.s (r.at_+(t:Int))=rd L (t:Int):=by
   rw [bt_rd,← hL]
   unfold rd
   rw [List.getD_eq_getElem?_getD,List.getD_eq_getElem?_getD,List.getElem?_drop]
   congr 2
   omega
  rw [if_pos hlt,wr (a:=r.at_+(t:Int)) (by omega) (by omega),if_pos (by omega),if_pos (by omega),hb,shift_or hx0 hx2 b0 b1,wr (a:=(t:Int)+1) (by omega) (by omega)]
  have e:L.take (t+1)=L.take t++[rd L (t:Int)]:=by
   rw [List.take_add_one,rd_nat]
   have:t<L.length:=by omega
   simp [List.getD_eq_getElem?_getD,this]
  refine .inr ⟨(_,(t:Int)+1),⟨t+1,by simp,by omega,by simp only;rw [e,val_app,hx],by simp only;omega,?_⟩,by simp only;omega,rfl⟩
  simp only
  rw [Int.pow_succ];omega
 ·have:t=n:=by omega
  subst this
  rw [if_neg hlt]
  exact .inl ⟨_,rfl,hx⟩
theorem rrnum_any (K:Nat) (hK:6≤K) (r:RR) (o:Option (List Int)) (h:SR o r) (hsz:r.s.size≤1099511627776) (n:Nat) (hn:n≤4):∃ r',P0 K r n=some (vl n o,r')∧SR (nx n o) r'∧r'.s=r.s:=by
 cases o with
 | none =>
  have hb:r.bad=true:=h
  refine ⟨⟨r.s,r.at_,true⟩,?_,rfl,rfl⟩
  unfold P0
  rw [if_pos hb];rfl
 | some L =>
  obtain ⟨hb,h0,h1,hL⟩:=h
  have hll:L.length+r.at_.toNat=r.s.size:=by rw [← hL,List.length_drop,bytesL_length];omega
  unfold P0
  rw [hb,if_neg (by decide),wr (a:=(r.s.size:Int)-r.at_) (by omega) (by omega)]
  by_cases hlt:L.length<n
  ·have hp:pnum n L=none:=by unfold pnum;rw [if_pos hlt]
   rw [if_pos (by omega)]
   refine ⟨⟨r.s,r.at_,true⟩,?_,?_,rfl⟩
   ·unfold vl;rw [Option.bind_some,hp];rfl
   ·unfold nx;rw [Option.bind_some,hp];rfl
  ·have hp:pnum n L=some (val (L.take n),L.drop n):=by unfold pnum;rw [if_neg hlt]
   obtain ⟨t,ht⟩:=rrnum_l0 K r L h0 h1 hL hsz n hn (by omega) K (by omega)
   rw [if_neg (by omega),ht]
   simp only [Option.bind_some]
   rw [wr (a:=r.at_+(n:Int)) (by omega) (by omega)]
   refine ⟨⟨r.s,r.at_+n,false⟩,?_,?_,rfl⟩
   ·unfold vl;rw [Option.bind_some,hp];rfl
   ·unfold nx;rw [Option.bind_some,hp]
    refine ⟨rfl,by simp only;omega,by simp only;omega,?_⟩
    simp only
    rw [← hL,List.drop_drop]
    congr 1;omega
def OutR {T:Type} (o:Option (T×List Int)) (v:T) (r:RR):Prop:=(∀ x L,o=some (x,L)→v=x)∧SR (o.map (·.2)) r
theorem rmany_loop {T:Type} (L:Nat→(List T×ByteArray×Int×Bool×Int)→Option (List T×ByteArray×Int×Bool×Int)) (f:RR→Option (T×RR)) (p:List Int→Option (T×List Int)) (G:T→Prop) (sz N:Nat)
  (hL:∀ m xs s a b i,L (m+1) (xs,s,a,b,i)=if i<(N:Int) then if (!b)=true then (f (⟨s,a,b⟩:RR)).bind fun r_20=>if (xs.length+([r_20.1]:List T).length)*sz≤140737488355328 then L m (xs++([r_20.1]:List T),r_20.2.s,r_20.2.at_,r_20.2.bad,IntKind.wrap .i64 (i+1)) else none else some (xs,s,a,b,i) else some (xs,s,a,b,i))
  (hf:∀ (r:RR) (M:List Int),SR (some M) r→r.s.size≤1099511627776→∃ v r',f r=some (v,r')∧OutR (p M) v r'∧r'.s=r.s∧G v) (hN:N≤65536) (hszb:65537*sz≤140737488355328) (r0:RR) (o:Option (List Int)) (h0:SR o r0) (hs:r0.s.size≤1099511627776) (m:Nat) (hm:N<m) :
  ∃ xs s a b i,L m ([],r0.s,r0.at_,r0.bad,0)=some (xs,s,a,b,i)∧OutR (o.bind (pmany p N)) xs ⟨s,a,b⟩∧s=r0.s∧xs.length≤N∧∀ x ∈ xs,G x:=by
 have:=rounds (L:=L) (fun q=>∃ k:Nat,q.2.2.2.2=(k:Int)∧k≤N∧q.1.length=k∧q.2.1=r0.s∧(∀ x ∈ q.1,G x)∧((q.2.2.2.1=false∧∃ M,SR (some M) ⟨q.2.1,q.2.2.1,q.2.2.2.1⟩∧o.bind (pmany p k)=some (q.1,M))∨(q.2.2.2.1=true∧o.bind (pmany p k)=none))) (fun q=>N-q.2.2.2.2.toNat) (fun q=>OutR (o.bind (pmany p N)) q.1 ⟨q.2.1,q.2.2.1,q.2.2.2.1⟩∧q.2.1=r0.s∧q.1.length≤N∧∀ x ∈ q.1,G x) (fun q m hI=>?_) m ([],r0.s,r0.at_,r0.bad,0)
  ⟨0,rfl,by omega,rfl,rfl,by simp,by
   cases o with
   | none=>exact .inr ⟨h0,rfl⟩
   | some M=>exact .inl ⟨h0.1,M,h0,rfl⟩⟩ (by simp only [Int.toNat_zero];omega)
 ·obtain ⟨⟨xs,s,a,b,i⟩,h1,h2,h3,h4,h5⟩:=this
  exact ⟨xs,s,a,b,i,h1,h2,h3,h4,h5⟩
 obtain ⟨xs,s,a,b,i'⟩:=q
 obtain ⟨k,hk',hk,hx,hss,hG,hcase⟩:=hI
 simp only at hk' hx hss hG hcase
 subst hk'
 rw [hL]
 have stay:∀ {k':Nat},k'≤N→o.bind (pmany p k')=none→o.bind (pmany p N)=none:=by
  intro k' hk' h
  cases o with
  | none=>rfl
  | some M=>exact pmany_none h hk'
 rcases hcase with ⟨rfl,M,hM,hp⟩ | ⟨rfl,hp⟩
 ·by_cases hlt:k<N
  ·obtain ⟨v,r',h1,h2,h3,h4⟩:=hf ⟨s,a,false⟩ M hM (by simp only;rw [hss];exact hs)
   have hb:(xs.length+([v]:List T).length)*sz≤140737488355328:=Nat.le_trans (Nat.mul_le_mul_right _ (by rw [List.length_singleton];omega)) hszb
   rw [if_pos (by omega),if_pos (by decide),h1,Option.bind_some,if_pos hb,wr (a:=(k:Int)+1) (by omega) (by omega)]
   refine .inr ⟨(xs++[v],r'.s,r'.at_,r'.bad,(k:Int)+1),⟨k+1,by simp,by omega,by simp [hx],by simp only;rw [h3];exact hss,?_,?_⟩,by simp only;omega,rfl⟩
   ·intro x hxm
    rcases List.mem_append.1 hxm with h | h
    ·exact hG x h
    ·simp at h;subst h;exact h4
   ·cases o with
    | none=>cases hp
    | some L0 =>
     have hs:=pmany_succ p k L0
     have hp':pmany p k L0=some (xs,M):=hp
     rw [hp',Option.bind_some] at hs
     simp only at hs ⊢
     obtain ⟨q1,q2⟩:=h2
     cases ho:p M with
     | none =>
      rw [ho] at q2 hs
      exact .inr ⟨q2,by rw [Option.bind_some,hs];rfl⟩
     | some c =>
      rw [ho] at q2 hs
      have hv:=q1 c.1 c.2 (by rw [ho])
      have q2':SR (some c.2) r':=q2
      exact .inl ⟨q2'.1,c.2,q2',by rw [Option.bind_some,hs,hv];rfl⟩
  ·have:k=N:=by omega
   subst this
   rw [if_neg (by omega)]
   refine .inl ⟨_,rfl,⟨fun x L h=>?_,?_⟩,hss,by simp only;omega,hG⟩
   ·rw [hp] at h;cases h;rfl
   ·rw [hp];exact hM
 ·refine .inl ⟨(xs,s,a,true,(k:Int)),by split <;> rfl,⟨fun x L h=>?_,?_⟩,hss,by simp only;omega,hG⟩
  ·rw [stay hk hp] at h;cases h
  ·rw [stay hk hp];exact rfl
theorem rnum4 (K:Nat) (hK:6≤K) (r:RR) (M:List Int) (h:SR (some M) r) (hs:r.s.size≤1099511627776):∃ v r',P0 K r 4=some (v,r')∧OutR (pnum 4 M) v r'∧r'.s=r.s∧True:=by
 obtain ⟨r',h1,h2,h3⟩:=rrnum_any K hK r _ h hs 4 (by omega)
 refine ⟨_,r',h1,⟨fun x L h=>?_,h2⟩,h3,trivial⟩
 unfold vl;rw [Option.bind_some,h];rfl
theorem rpick_spec (K:Nat) (hK:70000≤K) (r:RR) (M:List Int) (h:SR (some M) r) (hs:r.s.size≤1099511627776):∃ v r',G3 K r=some (v,r')∧OutR (ppick M) v r'∧r'.s=r.s∧v.Kids.length≤255:=by
 obtain ⟨r1,e1,s1,z1⟩:=rrnum_any K (by omega) r _ h hs 2 (by omega)
 obtain ⟨r2,e2,s2,z2⟩:=rrnum_any K (by omega) r1 _ s1 (by rw [z1];exact hs) 1 (by omega)
 obtain ⟨r3,e3,s3,z3⟩:=rrnum_any K (by omega) r2 _ s2 (by rw [z2,z1];exact hs) 1 (by omega)
 obtain ⟨n0,n1⟩:=vl_range 1 _ s2.byt
 obtain ⟨N,hN⟩:=Int.eq_ofNat_of_zero_le n0
 have hN1:N<256:=by rw [hN] at n1;have:(256:Int) ^ 1=256:=rfl;omega
 obtain ⟨xs,s,a,b,i,e4,⟨o1,o2⟩,z4,l4,_⟩:=rmany_loop (G3.l0 K ((N:Int),r3)) (fun r=>P0 K r 4) (pnum 4) (fun _=>True) 8 N (fun m xs s a b i=>by simp only [G3.l0]) (fun r M h hs=>rnum4 K (by omega) r M h hs) (by omega) (by omega) r3 _ s3 (by rw [z3,z2,z1];exact hs) K (by omega)
 have e1':P0 K (⟨r.s,r.at_,r.bad⟩:RR) 2=some (_,r1):=e1
 have e2':P0 K (⟨r1.s,r1.at_,r1.bad⟩:RR) 1=some (_,r2):=e2
 have e3':P0 K (⟨r2.s,r2.at_,r2.bad⟩:RR) 1=some (_,r3):=e3
 refine ⟨(⟨vl 2 (some M),vl 1 (nx 2 (some M)),xs⟩:Pick),⟨s,a,b⟩,?_,?_,by simp only;rw [z4,z3,z2,z1],by simp only;omega⟩
 ·unfold G3
  rw [e1',Option.bind_some,e2',Option.bind_some,e3',Option.bind_some,hN,e4]
  rfl
 ·have hp:ppick M=((nx 1 (nx 1 (nx 2 (some M)))).bind fun L=>(pmany (pnum 4) N L).bind fun k=>some (⟨vl 2 (some M),vl 1 (nx 2 (some M)),k.1⟩,k.2)):=by
   show ((some M).bind ppick)=_
   unfold ppick
   simp only [chain]
   rw [hN];rfl
  rw [hp]
  cases ho:nx 1 (nx 1 (nx 2 (some M))) with
  | none=>rw [ho] at o2;exact ⟨fun x L h=>(by cases h),o2⟩
  | some L =>
   rw [ho] at o1 o2
   simp only [Option.bind_some] at o1 o2 ⊢
   cases hm:pmany (pnum 4) N L with
   | none=>rw [hm] at o2;exact ⟨fun x L h=>(by cases h),o2⟩
   | some q =>
    rw [hm] at o1 o2
    have:=o1 q.1 q.2 rfl
    exact ⟨fun x L h=>by cases h;rw [this],o2⟩
theorem pnum_F {n:Nat} {L:List Int} {a:Int×List Int} (hb:Byt L) (h:pnum n L=some a):0≤a.1∧a.1<256 ^ n∧Byt a.2:=by
 unfold pnum at h
 split at h
 ·cases h
 ·cases h
  have:=val_range (byt_take hb n)
  rw [List.length_take,Nat.min_eq_left (by omega)] at this
  exact ⟨this.1,this.2,byt_drop hb n⟩
theorem pmany_F {T:Type} {p:List Int→Option (T×List Int)} {G:T→Prop} (hp:∀ L a,Byt L→p L=some a→G a.1∧Byt a.2):∀ {n:Nat} {L:List Int} {a:List T×List Int},Byt L→pmany p n L=some a→(∀ x ∈ a.1,G x)∧Byt a.2:=by
 intro n
 induction n with
 | zero=>intro L a hb h;simp [pmany] at h;subst h;exact ⟨by simp,hb⟩
 | succ n ih =>
  intro L a hb h
  rw [pmany] at h
  cases h1:p L with
  | none=>rw [h1] at h;cases h
  | some c =>
   obtain ⟨g1,g2⟩:=hp L c hb h1
   rw [h1,Option.bind_some] at h
   cases h2:pmany p n c.2 with
   | none=>rw [h2] at h;cases h
   | some d =>
    obtain ⟨k1,k2⟩:=ih g2 h2
    rw [h2,Option.bind_some] at h
    cases h
    exact ⟨fun x hx=>by rcases List.mem_cons.1 hx with rfl | hx;exact g1;exact k1 x hx,k2⟩
theorem pow1:(256:Int) ^ 1=256:=rfl
theorem pow2:(256:Int) ^ 2=65536:=rfl
theorem pow4:(256:Int) ^ 4=4294967296:=rfl
theorem ppick_F {L:List Int} {a:Pick×List Int} (hb:Byt L) (h:ppick L=some a):pickOk a.1∧Byt a.2:=by
 unfold ppick at h
 cases h1:pnum 2 L with
 | none=>rw [h1] at h;cases h
 | some q1 =>
  obtain ⟨a1,a2,a3⟩:=pnum_F hb h1
  rw [h1,Option.bind_some] at h
  cases h2:pnum 1 q1.2 with
  | none=>rw [h2] at h;cases h
  | some q2 =>
   obtain ⟨b1,b2,b3⟩:=pnum_F a3 h2
   rw [h2,Option.bind_some] at h
   cases h3:pnum 1 q2.2 with
   | none=>rw [h3] at h;cases h
   | some q3 =>
    obtain ⟨c1,c2,c3⟩:=pnum_F b3 h3
    rw [h3,Option.bind_some] at h
    cases h4:pmany (pnum 4) q3.1.toNat q3.2 with
    | none=>rw [h4] at h;cases h
    | some q4 =>
     obtain ⟨d1,d2⟩:=pmany_F (G:=F4) (fun L a hb h=>by
      obtain ⟨x,y,z⟩:=pnum_F hb h
      exact ⟨⟨x,by rw [pow4] at y;exact y⟩,z⟩) c3 h4
     have hl:=pmany_len h4
     rw [h4,Option.bind_some] at h
     cases h
     rw [pow2] at a2
     rw [pow1] at b2 c2
     exact ⟨⟨⟨a1,a2⟩,⟨b1,b2⟩,⟨by simp only;omega,by simp only;omega⟩,d1⟩,d2⟩
theorem rnode_spec (K:Nat) (hK:70000≤K) (r:RR) (M:List Int) (h:SR (some M) r) (hs:r.s.size≤1099511627776):∃ v r',J3 K r=some (v,r')∧OutR (pnode M) v r'∧r'.s=r.s∧True:=by
 obtain ⟨r1,e1,s1,z1⟩:=rrnum_any K (by omega) r _ h hs 1 (by omega)
 obtain ⟨r2,e2,s2,z2⟩:=rrnum_any K (by omega) r1 _ s1 (by rw [z1];exact hs) 1 (by omega)
 rw [z1] at z2
 obtain ⟨r3,e3,s3,z3⟩:=rrnum_any K (by omega) r2 _ s2 (by rw [z2];exact hs) 2 (by omega)
 rw [z2] at z3
 obtain ⟨r4,e4,s4,z4⟩:=rrnum_any K (by omega) r3 _ s3 (by rw [z3];exact hs) 2 (by omega)
 rw [z3] at z4
 obtain ⟨r5,e5,s5,z5⟩:=rrnum_any K (by omega) r4 _ s4 (by rw [z4];exact hs) 1 (by omega)
 rw [z4] at z5
 obtain ⟨r6,e6,s6,z6⟩:=rrnum_any K (by omega) r5 _ s5 (by rw [z5];exact hs) 1 (by omega)
 rw [z5] at z6
 obtain ⟨r7,e7,s7,z7⟩:=rrnum_any K (by omega) r6 _ s6 (by rw [z6];exact hs) 1 (by omega)
 rw [z6] at z7
 obtain ⟨r8,e8,s8,z8⟩:=rrnum_any K (by omega) r7 _ s7 (by rw [z7];exact hs) 1 (by omega)
 rw [z7] at z8
 obtain ⟨r9,e9,s9,z9⟩:=rrnum_any K (by omega) r8 _ s8 (by rw [z8];exact hs) 4 (by omega)
 rw [z8] at z9
 obtain ⟨r10,e10,s10,z10⟩:=rrnum_any K (by omega) r9 _ s9 (by rw [z9];exact hs) 2 (by omega)
 rw [z9] at z10
 have g1:=vl_range 1 _ h.byt
 have g2:=vl_range 1 _ s1.byt
 have g3:=vl_range 2 _ s2.byt
 have g4:=vl_range 2 _ s3.byt
 have g5:=vl_range 1 _ s4.byt
 have g6:=vl_range 1 _ s5.byt
 have g7:=vl_range 1 _ s6.byt
 have g8:=vl_range 1 _ s7.byt
 have g9:=vl_range 4 _ s8.byt
 obtain ⟨n0,n1⟩:=vl_range 2 _ s9.byt
 have hby:=s10.byt
 rw [pnode_eq]
 unfold pnode
 simp only [chain]
 clear s1 s2 s3 s4 s5 s6 s7 s8 s9
 generalize hO0:(some M:Option (List Int))=O0 at *
 generalize hv1:vl 1 O0=v1 at *
 generalize hO1:nx 1 O0=O1 at *
 generalize hv2:vl 1 O1=v2 at *
 generalize hO2:nx 1 O1=O2 at *
 generalize hv3:vl 2 O2=v3 at *
 generalize hO3:nx 2 O2=O3 at *
 generalize hv4:vl 2 O3=v4 at *
 generalize hO4:nx 2 O3=O4 at *
 generalize hv5:vl 1 O4=v5 at *
 generalize hO5:nx 1 O4=O5 at *
 generalize hv6:vl 1 O5=v6 at *
 generalize hO6:nx 1 O5=O6 at *
 generalize hv7:vl 1 O6=v7 at *
 generalize hO7:nx 1 O6=O7 at *
 generalize hv8:vl 1 O7=v8 at *
 generalize hO8:nx 1 O7=O8 at *
 generalize hv9:vl 4 O8=v9 at *
 generalize hO9:nx 4 O8=O9 at *
 generalize hv10:vl 2 O9=v10 at *
 generalize hO10:nx 2 O9=O10 at *
 obtain ⟨N,rfl⟩:=Int.eq_ofNat_of_zero_le n0
 rw [pow2] at n1
 have hN1:N<65536:=by omega
 obtain ⟨xs,s,a,b,i,e11,⟨o1,o2⟩,z11,l11,hG⟩:=rmany_loop (J3.l0 K ((N:Int),r10)) (G3 K) ppick (fun p=>p.Kids.length≤255) 40 N (fun m xs s a b i=>by simp only [J3.l0]) (fun r M h hs=>rpick_spec K hK r M h hs) (by omega) (by omega) r10 _ s10 (by rw [z10];exact hs) K (by omega)
 rw [z10] at z11
 have e1':P0 K (⟨r.s,r.at_,r.bad⟩:RR) 1=some (_,r1):=e1
 have e2':P0 K (⟨r1.s,r1.at_,r1.bad⟩:RR) 1=some (_,r2):=e2
 have e3':P0 K (⟨r2.s,r2.at_,r2.bad⟩:RR) 2=some (_,r3):=e3
 have e4':P0 K (⟨r3.s,r3.at_,r3.bad⟩:RR) 2=some (_,r4):=e4
 have e5':P0 K (⟨r4.s,r4.at_,r4.bad⟩:RR) 1=some (_,r5):=e5
 have e6':P0 K (⟨r5.s,r5.at_,r5.bad⟩:RR) 1=some (_,r6):=e6
 have e7':P0 K (⟨r6.s,r6.at_,r6.bad⟩:RR) 1=some (_,r7):=e7
 have e8':P0 K (⟨r7.s,r7.at_,r7.bad⟩:RR) 1=some (_,r8):=e8
 have e9':P0 K (⟨r8.s,r8.at_,r8.bad⟩:RR) 4=some (_,r9):=e9
 have e10':P0 K (⟨r9.s,r9.at_,r9.bad⟩:RR) 2=some (_,r10):=e10
 unfold J3
 rw [e1',Option.bind_some,e2',Option.bind_some,e3',Option.bind_some,e4',Option.bind_some,e5',Option.bind_some,e6',Option.bind_some,e7',Option.bind_some,e8',Option.bind_some,e9',Option.bind_some,e10',Option.bind_some,e11]
 simp only [Option.bind_some]
 obtain ⟨c,c1,c2⟩:=nodeMay_spec K (⟨decide (v1=1),v2,v3,⟨v4,v5,v6⟩,v7,v8,v9,xs⟩:Node) (by simp only;omega) (by simp only;omega) (fun p hp=>by have:=hG p hp;omega)
 have main:∀ (o:Option (Node×List Int)),(b=true→o=none)→(b=false→(v1≤1∧c=true→∃ L',o=some ((⟨decide (v1=1),v2,v3,⟨v4,v5,v6⟩,v7,v8,v9,xs⟩:Node),L')∧SR (some L') ⟨s,a,b⟩)∧(¬ (v1≤1∧c=true)→o=none))→∃ v r',(if 1<v1 then some ((⟨decide (v1=1),v2,v3,⟨v4,v5,v6⟩,v7,v8,v9,xs⟩:Node),(⟨s,a,true⟩:RR)) else (V2 K (⟨decide (v1=1),v2,v3,⟨v4,v5,v6⟩,v7,v8,v9,xs⟩:Node)).bind fun r_40=>if (!r_40)=true then some ((⟨decide (v1=1),v2,v3,⟨v4,v5,v6⟩,v7,v8,v9,xs⟩:Node),(⟨s,a,true⟩:RR)) else some ((⟨decide (v1=1),v2,v3,⟨v4,v5,v6⟩,v7,v8,v9,xs⟩:Node),(⟨s,a,b⟩:RR)))=some (v,r')∧OutR o v r'∧r'.s=r.s∧True:=by
  intro o hb1 hb2
  have none_of:o=none→∀ v a,OutR o v (⟨s,a,true⟩:RR):=by rintro rfl v a;exact ⟨fun x L h=>(by cases h),rfl⟩
  by_cases hv:1<v1
  ·rw [if_pos hv]
   refine ⟨_,_,rfl,none_of ?_ _ _,z11,trivial⟩
   cases hbb:b with
   | true=>exact hb1 hbb
   | false=>exact (hb2 hbb).2 (fun h=>by have:=h.1;omega)
  ·rw [if_neg hv,c1,Option.bind_some]
   cases hc:c with
   | false =>
    rw [if_pos (by decide)]
    refine ⟨_,_,rfl,none_of ?_ _ _,z11,trivial⟩
    cases hbb:b with
    | true=>exact hb1 hbb
    | false=>exact (hb2 hbb).2 (fun h=>by have:=h.2;rw [hc] at this;cases this)
   | true =>
    rw [if_neg (by decide)]
    refine ⟨_,_,rfl,?_,z11,trivial⟩
    cases hbb:b with
    | true=>exact none_of (hb1 hbb) _ _
    | false =>
     obtain ⟨L',h1,h2⟩:=(hb2 hbb).1 ⟨by omega,hc⟩
     rw [h1]
     refine ⟨fun x L h=>by cases h;rfl,?_⟩
     rw [← hbb];exact h2
 refine main _ (fun hb=>?_) (fun hb=>?_)
 ·cases O10 with
  | none=>rfl
  | some L =>
   simp only [Option.bind_some,Int.toNat_natCast] at o2 ⊢
   cases hm:pmany ppick N L with
   | none=>rfl
   | some q=>rw [hm] at o2;have:=o2.1;rw [hb] at this;cases this
 ·cases O10 with
  | none =>
       have:b=true:=o2
       rw [hb] at this;cases this
  | some L =>
   simp only [Option.bind_some,Int.toNat_natCast] at o1 o2 ⊢
   cases hm:pmany ppick N L with
   | none =>
        rw [hm] at o2;have:b=true:=o2
        rw [hb] at this;cases this
   | some q =>
    rw [hm] at o1 o2
    have hq:=o1 q.1 q.2 rfl
    subst hq
    obtain ⟨k1,k2⟩:=pmany_F (G:=pickOk) (fun L a hb h=>ppick_F hb h) (hby L rfl) hm
    have hxl:=pmany_len hm
    rw [pow1] at g1 g2 g5 g6 g7 g8
    rw [pow2] at g3 g4
    rw [pow4] at g9
    have hok:nodeOk (⟨decide (v1=1),v2,v3,⟨v4,v5,v6⟩,v7,v8,v9,q.1⟩:Node)↔shapeOk (⟨decide (v1=1),v2,v3,⟨v4,v5,v6⟩,v7,v8,v9,q.1⟩:Node) :=
     ⟨fun h=>h.1,fun h=>⟨h,⟨g2,g3,g4,g5,g6,g7,g8,g9,⟨by simp only;omega,by simp only;omega⟩⟩,k1⟩⟩
    simp only [Option.bind_some]
    have hT:nodeT v1 ⟨sg v1,v2,v3,⟨v4,v5,v6⟩,v7,v8,v9,q.1⟩=true↔(v1≤1∧c=true):=by
     unfold nodeT
     rw [decide_eq_true_eq,c2,hok]
     rfl
    refine ⟨fun h=>?_,fun h=>?_⟩
    ·rw [hT.2 h]
     exact ⟨q.2,rfl,o2⟩
    ·have:nodeT v1 ⟨sg v1,v2,v3,⟨v4,v5,v6⟩,v7,v8,v9,q.1⟩=false:=by
      cases hh:nodeT v1 ⟨sg v1,v2,v3,⟨v4,v5,v6⟩,v7,v8,v9,q.1⟩ with
      | false=>rfl
      | true=>exact absurd (hT.1 hh) h
     rw [this];rfl
theorem RGet_spec (K:Nat) (hK:70000≤K) (s:ByteArray):L5 K s=some (getR (bytesL s)):=by
 have hl:=bytesL_length s
 have h84:(⟨#[84,67]⟩:ByteArray)=strL [84,67]:=by decide
 have hb84:Byt [84,67]:=by intro v hv;simp at hv;rcases hv with rfl | rfl <;> decide
 unfold L5 getR
 by_cases hbig:1048576<s.size
 ·rw [if_pos (show (1048576:Int)<(s.size:Int) by omega),if_pos (show 1048576<(bytesL s).length by omega)]
 rw [if_neg (show ¬ (1048576:Int)<(s.size:Int) by omega),if_neg (show ¬ 1048576<(bytesL s).length by omega)]
 by_cases h2:s.size<2
 ·have hn:¬ (bytesL s).take 2=[84,67]:=by
   intro h
   have:=congrArg List.length h
   rw [List.length_take] at this
   simp at this
   omega
  rw [if_pos (by omega)]
  unfold pcert
  rw [if_neg hn]
 rw [if_neg (by omega)]
 have e:=bytesL_sls s 0 2
 simp only [Int.toNat_zero,List.drop_zero] at e
 have hq:(sls s 0 2=strL [84,67])↔(bytesL s).take 2=[84,67]:=by
  constructor
  ·intro h;rw [h,byt_back hb84] at e;exact e.symm
  ·intro h
   have:strL (bytesL (sls s 0 2))=strL [84,67]:=by rw [e];exact congrArg strL h
   rwa [strL_bytesL] at this
 rw [h84]
 by_cases hp:(bytesL s).take 2=[84,67]
 case neg =>
  rw [if_pos (fun h=>hp (hq.1 h))]
  unfold pcert
  rw [if_neg hp]
 rw [if_neg (fun h=>h (hq.2 hp))]
 have s0:SR (some ((bytesL s).drop 2)) (⟨s,2,false⟩:RR):=⟨rfl,by simp,by simp only;omega,rfl⟩
 have hcert:pcert (bytesL s)=((some ((bytesL s).drop 2)).bind fun L=>(pnum 4 L).bind fun r=>(pnum 4 r.2).bind fun n=>bif decide (n.1≤65536) then (pmany pnode n.1.toNat n.2).bind fun q=>some (⟨r.1,q.1⟩,q.2) else none):=by
  unfold pcert;rw [if_pos hp];rfl
 rw [hcert]
 obtain ⟨r1,e1,s1,z1⟩:=rrnum_any K (by omega) _ _ s0 (by simp only;omega) 4 (by omega)
 obtain ⟨r2,e2,s2,z2⟩:=rrnum_any K (by omega) r1 _ s1 (by rw [z1];simp only;omega) 4 (by omega)
 rw [z1] at z2
 obtain ⟨n0,n1⟩:=vl_range 4 _ s1.byt
 simp only [chain]
 generalize hO0:(some ((bytesL s).drop 2):Option (List Int))=o0 at *
 generalize hv1:vl 4 o0=v1 at *
 generalize hO1:nx 4 o0=O1 at *
 generalize hv2:vl 4 O1=v2 at *
 generalize hO2:nx 4 O1=O2 at *
 obtain ⟨N,rfl⟩:=Int.eq_ofNat_of_zero_le n0
 have e1':P0 K (⟨s,2,false⟩:RR) 4=some (v1,r1):=e1
 have e2':P0 K (⟨r1.s,r1.at_,r1.bad⟩:RR) 4=some (_,r2):=e2
 rw [e1',Option.bind_some,e2',Option.bind_some]
 simp only
 by_cases hN:65536<N
 ·rw [if_pos (by omega)]
  cases O2 with
  | none=>rfl
  | some L=>simp only [Option.bind_some];rw [decide_eq_false (by omega)];rfl
 rw [if_neg (by omega)]
 obtain ⟨xs,s',a,b,i,e11,⟨o1,o2⟩,z11,l11,_⟩:=rmany_loop (L5.l0 K ((N:Int),r2)) (J3 K) pnode (fun _=>True) 96 N (fun m xs s a b i=>by simp only [L5.l0]) (fun r M h hs=>rnode_spec K hK r M h hs) (by omega) (by omega) r2 _ s2 (by rw [z2];simp only;omega) K (by omega)
 rw [z2] at z11
 simp only at z11
 rw [e11]
 simp only [Option.bind_some]
 cases O2 with
 | none =>
  have:b=true:=o2
  rw [if_pos this];rfl
 | some L =>
  simp only [Option.bind_some,Int.toNat_natCast] at o1 o2 ⊢
  rw [decide_eq_true (by omega),cond_true]
  cases hm:pmany pnode N L with
  | none =>
   rw [hm] at o2
   have:b=true:=o2
   rw [if_pos this];rfl
  | some q =>
   rw [hm] at o1 o2
   have hq:=o1 q.1 q.2 rfl
   subst hq
   obtain ⟨hb,ha0,ha1,hd⟩:=o2
   simp only at hb ha0 ha1 hd
   subst z11
   rw [if_neg (by rw [hb];decide)]
   simp only [Option.bind_some]
   have hne:a≠(s'.size:Int)↔q.2≠[]:=by
    rw [← hd]
    constructor
    ·intro h h'
     apply h
     have:=congrArg List.length h'
     rw [List.length_drop,bytesL_length] at this
     simp at this
     omega
    ·intro h h'
     apply h
     apply List.drop_eq_nil_of_le
     rw [bytesL_length];omega
   cases hq:q.2 with
   | nil=>rw [if_neg (fun h=>hne.1 h hq)]
   | cons x l=>rw [if_pos (hne.2 (by rw [hq];simp))]
theorem pnum1_back {x:Int} (h:F1 x) (R:List Int):pnum 1 (B1 x++R)=some (x,R):=by
 simp [pnum,B1,val1]
theorem pnum2_back {x:Int} (h:F2 x) (R:List Int):pnum 2 (B2 x++R)=some (x,R):=by
 have e:x / 256*256+x % 256=x:=by omega
 simp only [pnum,B2,List.cons_append,List.nil_append,List.length_cons,List.take_succ_cons,List.take_zero,List.drop_succ_cons,List.drop_zero,val2,e]
 rw [if_neg (by omega)]
theorem pnum4_back {x:Int} (h:F4 x) (R:List Int):pnum 4 (B4 x++R)=some (x,R):=by
 obtain ⟨h0,h1⟩:=h
 have e:((x / 16777216*256+x / 65536 % 256)*256+x / 256 % 256)*256+x % 256=x:=by omega
 simp only [pnum,B4,List.cons_append,List.nil_append,List.length_cons,List.take_succ_cons,List.take_zero,List.drop_succ_cons,List.drop_zero,val4,e]
 rw [if_neg (by omega)]
theorem pmany_back {T:Type} {p:List Int→Option (T×List Int)} {enc:T→List Int}:∀ (xs:List T) (R:List Int),(∀ x ∈ xs,∀ R,p (enc x++R)=some (x,R))→pmany p xs.length ((xs.map enc).flatten++R)=some (xs,R):=by
 intro xs
 induction xs with
 | nil=>intro R _;rfl
 | cons x xs ih =>
  intro R h
  simp only [List.length_cons,List.map_cons,List.flatten_cons,List.append_assoc,pmany]
  rw [h x (List.mem_cons_self ..),Option.bind_some,ih R fun y hy=>h y (List.mem_cons_of_mem _ hy)]
  rfl
theorem ppick_back {p:Pick} (h:pickOk p) (R:List Int):ppick (pickB p++R)=some (p,R):=by
 obtain ⟨h1,h2,h3,h4⟩:=h
 unfold ppick pickB
 simp only [List.append_assoc]
 rw [pnum2_back h1,Option.bind_some,pnum1_back h2,Option.bind_some,pnum1_back h3,Option.bind_some]
 simp only [Int.toNat_natCast]
 unfold kidsB
 rw [pmany_back p.Kids R fun k hk R=>pnum4_back (h4 k hk) R]
 rfl
theorem pnode_back {x:Node} (h:nodeOk x) (R:List Int):pnode (nodeB x++R)=some (x,R):=by
 obtain ⟨h0,⟨b1,b2,b3,b4,b5,b6,b7,b8,b9⟩,h3⟩:=h
 unfold pnode nodeB headB
 simp only [List.append_assoc]
 rw [pnum1_back (bit_F x.Sign),Option.bind_some,pnum1_back b1,Option.bind_some,pnum2_back b2,Option.bind_some,pnum2_back b3,Option.bind_some,pnum1_back b4,Option.bind_some,pnum1_back b5,Option.bind_some,pnum1_back b6,Option.bind_some,pnum1_back b7,Option.bind_some,pnum4_back b8,Option.bind_some,pnum2_back b9,Option.bind_some]
 simp only [Int.toNat_natCast]
 unfold picksB
 rw [pmany_back x.Picks R fun p hp R=>ppick_back (h3 p hp) R]
 simp only [Option.bind_some]
 have hs:sg (if x.Sign=true then 1 else 0)=x.Sign:=by cases x.Sign <;> rfl
 have hle:(if x.Sign=true then (1:Int) else 0)≤1:=by split <;> omega
 rw [hs]
 have hT:nodeT (if x.Sign=true then 1 else 0) x=true:=by unfold nodeT;rw [decide_eq_true];exact ⟨hle,h0⟩
 rw [show (⟨x.Sign,x.Kind,x.Name,⟨x.Place.Rule,x.Place.Conj,x.Place.Pos⟩,x.I,x.J,x.Rank,x.Picks⟩:Node)=x from rfl,hT]
 rfl
theorem pcert_back {c:Cert} (h:certOk c) (hn:c.Nodes.length≤65536) (R:List Int):pcert (certB c++R)=some (c,R):=by
 obtain ⟨h1,h2⟩:=h
 unfold pcert certB
 have e:([84,67]++(B4 c.Root++(B4 (c.Nodes.length:Int)++nodesB c.Nodes))++R).take 2=[84,67]:=rfl
 rw [if_pos e]
 have e2:([84,67]++(B4 c.Root++(B4 (c.Nodes.length:Int)++nodesB c.Nodes))++R).drop 2=B4 c.Root++(B4 (c.Nodes.length:Int)++(nodesB c.Nodes++R)):=by simp
 rw [e2,pnum4_back h1,Option.bind_some,pnum4_back ⟨by omega,by omega⟩,Option.bind_some]
 simp only [Int.toNat_natCast]
 rw [decide_eq_true (by omega),cond_true]
 unfold nodesB
 rw [pmany_back c.Nodes R fun x hx R=>pnode_back (h2 x hx) R]
 rfl
theorem pnum_inv {n:Nat} {L:List Int} {a:Int×List Int} (hb:Byt L) (h:pnum n L=some a):∃ bs,bs.length=n∧Byt bs∧L=bs++a.2∧a.1=val bs∧Byt a.2:=by
 unfold pnum at h
 split at h
 ·cases h
 ·cases h
  exact ⟨L.take n,by rw [List.length_take];omega,byt_take hb n,(List.take_append_drop n L).symm,rfl,byt_drop hb n⟩
theorem pnum1_inv {L:List Int} {a:Int×List Int} (hb:Byt L) (h:pnum 1 L=some a):F1 a.1∧L=B1 a.1++a.2∧Byt a.2:=by
 obtain ⟨bs,h1,h2,h3,h4,h5⟩:=pnum_inv hb h
 match bs,h1 with
 | [x],_ =>
  rw [val1] at h4
  obtain ⟨g0,g1⟩:=h2 x (by simp)
  exact ⟨by rw [h4];exact ⟨g0,g1⟩,by rw [h3,h4];rfl,h5⟩
theorem pnum2_inv {L:List Int} {a:Int×List Int} (hb:Byt L) (h:pnum 2 L=some a):F2 a.1∧L=B2 a.1++a.2∧Byt a.2:=by
 obtain ⟨bs,h1,h2,h3,h4,h5⟩:=pnum_inv hb h
 match bs,h1 with
 | [x,y],_ =>
  rw [val2] at h4
  obtain ⟨g0,g1⟩:=h2 x (by simp)
  obtain ⟨k0,k1⟩:=h2 y (by simp)
  refine ⟨by rw [h4];exact ⟨by omega,by omega⟩,?_,h5⟩
  have e1:a.1 / 256=x:=by omega
  have e2:a.1 % 256=y:=by omega
  rw [h3,B2,e1,e2]
theorem pnum4_inv {L:List Int} {a:Int×List Int} (hb:Byt L) (h:pnum 4 L=some a):F4 a.1∧L=B4 a.1++a.2∧Byt a.2:=by
 obtain ⟨bs,h1,h2,h3,h4,h5⟩:=pnum_inv hb h
 match bs,h1 with
 | [x,y,z,t],_ =>
  rw [val4] at h4
  obtain ⟨g0,g1⟩:=h2 x (by simp)
  obtain ⟨k0,k1⟩:=h2 y (by simp)
  obtain ⟨l0,l1⟩:=h2 z (by simp)
  obtain ⟨m0,m1⟩:=h2 t (by simp)
  refine ⟨by rw [h4];exact ⟨by omega,by omega⟩,?_,h5⟩
  have e1:a.1 / 16777216=x:=by omega
  have e2:a.1 / 65536 % 256=y:=by omega
  have e3:a.1 / 256 % 256=z:=by omega
  have e4:a.1 % 256=t:=by omega
  rw [h3,B4,e1,e2,e3,e4]
theorem bind_inv {α β:Type} {o:Option α} {f:α→Option β} {b:β} (h:o.bind f=some b):∃ a,o=some a∧f a=some b:=by
 cases o with
 | none=>cases h
 | some a=>exact ⟨a,rfl,h⟩
theorem pmany_inv {T:Type} {p:List Int→Option (T×List Int)} {enc:T→List Int} {G:T→Prop} (hp:∀ L a,Byt L→p L=some a→G a.1∧L=enc a.1++a.2∧Byt a.2):∀ {n:Nat} {L:List Int} {a:List T×List Int},Byt L→pmany p n L=some a→(∀ x ∈ a.1,G x)∧L=(a.1.map enc).flatten++a.2∧Byt a.2:=by
 intro n
 induction n with
 | zero=>intro L a hb h;simp [pmany] at h;subst h;exact ⟨by simp,by simp,hb⟩
 | succ n ih =>
  intro L a hb h
  rw [pmany] at h
  obtain ⟨c,h1,h⟩:=bind_inv h
  obtain ⟨d,h2,h⟩:=bind_inv h
  obtain ⟨g1,g2,g3⟩:=hp L c hb h1
  obtain ⟨k1,k2,k3⟩:=ih g3 h2
  cases h
  exact ⟨fun x hx=>by rcases List.mem_cons.1 hx with rfl | hx;exact g1;exact k1 x hx,by simp only [List.map_cons,List.flatten_cons,List.append_assoc];rw [← k2];exact g2,k3⟩
theorem ppick_inv {L:List Int} {a:Pick×List Int} (hb:Byt L) (h:ppick L=some a):pickOk a.1∧L=pickB a.1++a.2∧Byt a.2:=by
 unfold ppick at h
 obtain ⟨q1,h1,h⟩:=bind_inv h
 obtain ⟨q2,h2,h⟩:=bind_inv h
 obtain ⟨q3,h3,h⟩:=bind_inv h
 obtain ⟨q4,h4,h⟩:=bind_inv h
 cases h
 obtain ⟨a1,a2,a3⟩:=pnum2_inv hb h1
 obtain ⟨b1,b2,b3⟩:=pnum1_inv a3 h2
 obtain ⟨c1,c2,c3⟩:=pnum1_inv b3 h3
 obtain ⟨d1,d2,d3⟩:=pmany_inv (G:=F4) (enc:=B4) (fun L a hb h=>pnum4_inv hb h) c3 h4
 have hl:=pmany_len h4
 have hlen:(q4.1.length:Int)=q3.1:=by have:=c1.1;omega
 refine ⟨⟨a1,b1,by simp only;rw [hlen];exact c1,d1⟩,?_,d3⟩
 unfold pickB kidsB
 simp only [List.append_assoc]
 rw [hlen,← d2,← c2,← b2]
 exact a2
theorem pnode_inv {L:List Int} {a:Node×List Int} (hb:Byt L) (h:pnode L=some a):nodeOk a.1∧L=nodeB a.1++a.2∧Byt a.2:=by
 unfold pnode at h
 obtain ⟨q1,h1,h⟩:=bind_inv h
 obtain ⟨q2,h2,h⟩:=bind_inv h
 obtain ⟨q3,h3,h⟩:=bind_inv h
 obtain ⟨q4,h4,h⟩:=bind_inv h
 obtain ⟨q5,h5,h⟩:=bind_inv h
 obtain ⟨q6,h6,h⟩:=bind_inv h
 obtain ⟨q7,h7,h⟩:=bind_inv h
 obtain ⟨q8,h8,h⟩:=bind_inv h
 obtain ⟨q9,h9,h⟩:=bind_inv h
 obtain ⟨q10,h10,h⟩:=bind_inv h
 obtain ⟨q11,h11,h⟩:=bind_inv h
 obtain ⟨a1,a2,a3⟩:=pnum1_inv hb h1
 obtain ⟨b1,b2,b3⟩:=pnum1_inv a3 h2
 obtain ⟨c1,c2,c3⟩:=pnum2_inv b3 h3
 obtain ⟨d1,d2,d3⟩:=pnum2_inv c3 h4
 obtain ⟨e1,e2,e3⟩:=pnum1_inv d3 h5
 obtain ⟨f1,f2,f3⟩:=pnum1_inv e3 h6
 obtain ⟨g1,g2,g3⟩:=pnum1_inv f3 h7
 obtain ⟨i1,i2,i3⟩:=pnum1_inv g3 h8
 obtain ⟨j1,j2,j3⟩:=pnum4_inv i3 h9
 obtain ⟨k1,k2,k3⟩:=pnum2_inv j3 h10
 obtain ⟨l1,l2,l3⟩:=pmany_inv (G:=pickOk) (enc:=pickB) (fun L a hb h=>ppick_inv hb h) k3 h11
 have hl:=pmany_len h11
 have hlen:(q11.1.length:Int)=q10.1:=by have:=k1.1;omega
 cases hT:nodeT q1.1 ⟨sg q1.1,q2.1,q3.1,⟨q4.1,q5.1,q6.1⟩,q7.1,q8.1,q9.1,q11.1⟩ with
 | false=>rw [hT] at h;cases h
 | true =>
  rw [hT] at h
  cases h
  unfold nodeT at hT
  rw [decide_eq_true_eq] at hT
  have hsg:(if sg q1.1=true then (1:Int) else 0)=q1.1:=by
   have h0:=a1.1
   have h1:=hT.1
   unfold sg
   by_cases h:q1.1=1
   ·rw [decide_eq_true h,if_pos rfl,h]
   ·rw [decide_eq_false h,if_neg (by decide)];omega
  refine ⟨⟨hT.2,⟨b1,c1,d1,e1,f1,g1,i1,j1,by simp only;rw [hlen];exact k1⟩,l1⟩,?_,l3⟩
  unfold nodeB headB picksB
  simp only [List.append_assoc]
  rw [hsg,hlen,← l2,← k2,← j2,← i2,← g2,← f2,← e2,← d2,← c2,← b2]
  exact a2
theorem pcert_inv {L:List Int} {a:Cert×List Int} (hb:Byt L) (h:pcert L=some a):certOk a.1∧a.1.Nodes.length≤65536∧L=certB a.1++a.2:=by
 unfold pcert at h
 split at h
 case isFalse=>cases h
 rename_i hp
 obtain ⟨q1,h1,h⟩:=bind_inv h
 obtain ⟨q2,h2,h⟩:=bind_inv h
 obtain ⟨a1,a2,a3⟩:=pnum4_inv (byt_drop hb 2) h1
 obtain ⟨b1,b2,b3⟩:=pnum4_inv a3 h2
 by_cases hn:q2.1≤65536
 ·rw [decide_eq_true hn,cond_true] at h
  obtain ⟨q3,h3,h⟩:=bind_inv h
  obtain ⟨c1,c2,c3⟩:=pmany_inv (G:=nodeOk) (enc:=nodeB) (fun L a hb h=>pnode_inv hb h) b3 h3
  have hl:=pmany_len h3
  have hlen:(q3.1.length:Int)=q2.1:=by have:=b1.1;omega
  cases h
  refine ⟨⟨a1,c1⟩,by simp only;omega,?_⟩
  unfold certB nodesB
  simp only [List.append_assoc]
  rw [hlen,← c2,← b2,← a2,← hp,List.take_append_drop]
 ·rw [decide_eq_false hn] at h;cases h
theorem getR_cert {L:List Int} (hb:Byt L) {c:Cert} (h:getR L=(c,0)):certOk c∧c.Nodes.length≤65536∧L=certB c∧L.length≤1048576:=by
 unfold getR at h
 split at h
 ·cases h
 ·cases hp:pcert L with
  | none=>rw [hp] at h;cases h
  | some a =>
   obtain ⟨c',R⟩:=a
   rw [hp] at h
   cases R with
   | cons x l=>cases h
   | nil =>
    cases h
    obtain ⟨h1,h2,h3⟩:=pcert_inv hb hp
    exact ⟨h1,h2,by simpa using h3,by omega⟩
theorem getR_back {c:Cert} (h:certOk c) (hn:c.Nodes.length≤65536) (hl:(certB c).length≤1048576):getR (certB c)=(c,0):=by
 have:=pcert_back h hn []
 rw [List.append_nil] at this
 unfold getR
 rw [if_neg (by omega),this]
theorem byt_cert {c:Cert} (h:certOk c) (hn:c.Nodes.length≤65536):Byt (certB c):=by
 refine Byt.app ?_ ((byt4 h.1).app ((byt4 ⟨by omega,by omega⟩).app (byt_nodes h.2)))
 intro v hv;simp at hv;rcases hv with rfl | rfl <;> decide
theorem getR_err (L:List Int):(getR L).2=0∨((getR L).1=⟨0,[]⟩∧(getR L).2≠0):=by
 unfold getR
 split
 ·exact .inr ⟨rfl,by decide⟩
 ·split
  ·exact .inl rfl
  ·exact .inr ⟨rfl,by decide⟩
theorem list_ext {T:Type} [Inhabited T] {a b:List T} (hl:a.length=b.length):(∀ i:Nat,i<a.length→rd a (i:Int)=rd b (i:Int))↔a=b:=by
 constructor
 ·intro h
  refine List.ext_getElem hl fun i h1 h2=>?_
  have:=h i h1
  simpa [rd_nat,List.getD_eq_getElem?_getD,h1,h2] using this
 ·rintro rfl _ _;rfl
theorem sameInts (K:Nat) (a b:List Int) (hK:a.length<K) (hl:a.length≤140737488355328):∃ r,J4 K a b=some r∧(r=true↔a=b):=by
 unfold J4
 by_cases hle:a.length=b.length
 ·obtain ⟨r,h1,h2,h3⟩:=all_loop a.length (J4.l0 K a b) false (fun i=>rd a (i:Int)=rd b (i:Int)) (fun m i hi=>by
   refine ⟨decide (rd a (i:Int)=rd b (i:Int)),by simp,?_⟩
   simp only [J4.l0]
   rw [if_pos (by omega),if_pos (Int.natCast_nonneg i),if_pos (by omega),wr (a:=(i:Int)+1) (by omega) (by omega)]
   by_cases h:rd a (i:Int)=rd b (i:Int) <;> simp [h]) (fun m=>by simp only [J4.l0];rw [if_neg (by omega)]) K hK
  rw [list_ext hle] at h2 h3
  rw [if_neg (by omega),h1]
  by_cases h:a=b
  ·rw [h2 h];exact ⟨true,rfl,by simp [h]⟩
  ·rw [h3 h];exact ⟨false,rfl,by simp [h]⟩
 ·rw [if_pos (by omega)]
  exact ⟨false,rfl,by simp;intro h;exact hle (by rw [h])⟩
theorem samePicks (K:Nat) (a b:List Pick) (hK:a.length<K) (hl:a.length≤140737488355328) (hk:∀ p ∈ a,p.Kids.length<K∧p.Kids.length≤140737488355328):∃ r,W3 K a b=some r∧(r=true↔a=b):=by
 unfold W3
 by_cases hle:a.length=b.length
 ·obtain ⟨r,h1,h2,h3⟩:=all_loop a.length (W3.l0 K a b) false (fun i=>rd a (i:Int)=rd b (i:Int)) (fun m i hi=>by
   obtain ⟨k1,k2⟩:=hk _ (rd_mem (Int.natCast_nonneg i) (by omega))
   obtain ⟨q,q1,q2⟩:=sameInts K (rd a (i:Int)).Kids (rd b (i:Int)).Kids k1 k2
   simp only [W3.l0]
   rw [if_pos (by omega),if_pos (Int.natCast_nonneg i),if_pos (by omega),q1,Option.bind_some,wr (a:=(i:Int)+1) (by omega) (by omega)]
   have he:rd a (i:Int)=rd b (i:Int)↔(rd a (i:Int)).At=(rd b (i:Int)).At∧(rd a (i:Int)).Conj=(rd b (i:Int)).Conj∧(rd a (i:Int)).Kids=(rd b (i:Int)).Kids:=by
    cases rd a (i:Int);cases rd b (i:Int);simp
   refine ⟨decide (rd a (i:Int)=rd b (i:Int)),by simp,?_⟩
   by_cases c1:(rd a (i:Int)).At=(rd b (i:Int)).At
   case neg=>rw [if_pos c1,decide_eq_false (fun h=>c1 (he.1 h).1)];rfl
   rw [if_neg (by simp [c1])]
   by_cases c2:(rd a (i:Int)).Conj=(rd b (i:Int)).Conj
   case neg=>rw [if_pos c2,decide_eq_false (fun h=>c2 (he.1 h).2.1)];rfl
   rw [if_neg (by simp [c2])]
   cases q with
   | true=>rw [if_neg (by decide),decide_eq_true (he.2 ⟨c1,c2,q2.1 rfl⟩),if_pos rfl]
   | false=>rw [if_pos (by decide),decide_eq_false (fun h=>by have:=q2.2 (he.1 h).2.2;cases this)];rfl) (fun m=>by simp only [W3.l0];rw [if_neg (by omega)]) K hK
  rw [list_ext hle] at h2 h3
  rw [if_neg (by omega),h1]
  by_cases h:a=b
  ·rw [h2 h];exact ⟨true,rfl,by simp [h]⟩
  ·rw [h3 h];exact ⟨false,rfl,by simp [h]⟩
 ·rw [if_pos (by omega)]
  exact ⟨false,rfl,by simp;intro h;exact hle (by rw [h])⟩
theorem sameNode (K:Nat) (a b:Node) (hK:a.Picks.length<K) (hl:a.Picks.length≤140737488355328) (hk:∀ p ∈ a.Picks,p.Kids.length<K∧p.Kids.length≤140737488355328):∃ r,V6 K a b=some r∧(r=true↔a=b):=by
 obtain ⟨q,q1,q2⟩:=samePicks K a.Picks b.Picks hK hl hk
 unfold V6
 have he:a=b↔a.Sign=b.Sign∧a.Kind=b.Kind∧a.Name=b.Name∧a.Place=b.Place∧a.I=b.I∧a.J=b.J∧a.Rank=b.Rank∧a.Picks=b.Picks:=by
  cases a;cases b;simp
 by_cases c1:a.Sign=b.Sign
 case neg=>rw [if_neg c1];exact ⟨false,rfl,by rw [he];simp [c1]⟩
 rw [if_pos c1]
 by_cases c2:a.Kind=b.Kind
 case neg=>rw [if_neg c2];exact ⟨false,rfl,by rw [he];simp [c2]⟩
 rw [if_pos c2]
 by_cases c3:a.Name=b.Name
 case neg=>rw [if_neg c3];exact ⟨false,rfl,by rw [he];simp [c3]⟩
 rw [if_pos c3]
 by_cases c4:a.Place=b.Place
 case neg=>rw [if_neg c4];exact ⟨false,rfl,by rw [he];simp [c4]⟩
 rw [if_pos c4]
 by_cases c5:a.I=b.I
 case neg=>rw [if_neg c5];exact ⟨false,rfl,by rw [he];simp [c5]⟩
 rw [if_pos c5]
 by_cases c6:a.J=b.J
 case neg=>rw [if_neg c6];exact ⟨false,rfl,by rw [he];simp [c6]⟩
 rw [if_pos c6]
 by_cases c7:a.Rank=b.Rank
 case neg=>rw [if_neg c7];exact ⟨false,rfl,by rw [he];simp [c7]⟩
 rw [if_pos c7,q1]
 exact ⟨q,rfl,by rw [he,q2];simp [c1,c2,c3,c4,c5,c6,c7]⟩
theorem sameCert (K:Nat) (a b:Cert) (h:PR K a):Q3 K a b=some (decide (a=b)):=by
 have hl:=h.n.2
 unfold Q3
 have he:a=b↔a.Root=b.Root∧a.Nodes=b.Nodes:=by cases a;cases b;simp
 by_cases c1:a.Root=b.Root
 case neg=>rw [if_pos c1,decide_eq_false (fun h=>c1 (he.1 h).1)]
 rw [if_neg (by simp [c1])]
 by_cases hle:a.Nodes.length=b.Nodes.length
 ·obtain ⟨r,h1,h2,h3⟩:=all_loop a.Nodes.length (Q3.l0 K a b) false (fun i=>rd a.Nodes (i:Int)=rd b.Nodes (i:Int)) (fun m i hi=>by
   have hm:rd a.Nodes (i:Int) ∈ a.Nodes:=rd_mem (Int.natCast_nonneg i) (by omega)
   obtain ⟨q,q1,q2⟩:=sameNode K (rd a.Nodes (i:Int)) (rd b.Nodes (i:Int)) (h.p _ hm).1 (h.p _ hm).2 (h.k _ hm)
   refine ⟨q,q2,?_⟩
   simp only [Q3.l0]
   rw [if_pos (by omega),if_pos (Int.natCast_nonneg i),if_pos (by omega),q1,Option.bind_some,wr (a:=(i:Int)+1) (by omega) (by omega)]
   cases q <;> simp) (fun m=>by simp only [Q3.l0];rw [if_neg (by omega)]) K h.n.1
  rw [list_ext hle] at h2 h3
  rw [if_neg (by omega),h1]
  by_cases hh:a.Nodes=b.Nodes
  ·rw [h2 hh,decide_eq_true (he.2 ⟨c1,hh⟩)];rfl
  ·rw [h3 hh,decide_eq_false (fun h=>hh (he.1 h).2)];rfl
 ·rw [if_pos (by omega),decide_eq_false]
  intro h;exact hle (by rw [h])
theorem PR_ok {K:Nat} (hK:70000≤K) {c:Cert} (h:certOk c) (hn:c.Nodes.length≤65536):PR K c:=by
 refine ⟨⟨by omega,by omega⟩,fun x hx=>?_,fun x hx p hp=>?_⟩
 ·have:=(h.2 x hx).2.1.2.2.2.2.2.2.2.2.2
  exact ⟨by omega,by omega⟩
 ·have:=((h.2 x hx).2.2 p hp).2.2.1.2
  exact ⟨by omega,by omega⟩
def c0:Cert:=⟨1,[⟨true,1,0,⟨1,2,3⟩,4,5,6,[⟨7,8,[9]⟩]⟩,⟨false,0,2,⟨0,0,0⟩,0,0,0,[]⟩]⟩
theorem c0_ok:certOk c0:=by
 refine ⟨⟨by decide,by decide⟩,fun x hx=>?_⟩
 simp only [c0,List.mem_cons,List.not_mem_nil,or_false] at hx
 rcases hx with rfl | rfl
 ·refine ⟨.inr ⟨rfl,rfl⟩,⟨⟨by decide,by decide⟩,⟨by decide,by decide⟩,⟨by decide,by decide⟩,⟨by decide,by decide⟩,⟨by decide,by decide⟩,⟨by decide,by decide⟩,⟨by decide,by decide⟩,⟨by decide,by decide⟩,⟨by decide,by decide⟩⟩,fun p hp=>?_⟩
  simp only [List.mem_singleton] at hp
  subst hp
  exact ⟨⟨by decide,by decide⟩,⟨by decide,by decide⟩,⟨by decide,by decide⟩,by intro k hk;simp at hk;subst hk;exact ⟨by decide,by decide⟩⟩
 ·exact ⟨.inl ⟨rfl,rfl⟩,⟨⟨by decide,by decide⟩,⟨by decide,by decide⟩,⟨by decide,by decide⟩,⟨by decide,by decide⟩,⟨by decide,by decide⟩,⟨by decide,by decide⟩,⟨by decide,by decide⟩,⟨by decide,by decide⟩,⟨by decide,by decide⟩⟩,by simp⟩
theorem sm_of_ok {c:Cert} (h:certOk c):certSm c:=by
 refine ⟨by have:=h.1.2;unfold Small;omega,fun x hx=>?_⟩
 obtain ⟨_,⟨b1,b2,b3,b4,b5,b6,b7,b8,_⟩,hp⟩:=h.2 x hx
 unfold F1 at *;unfold F2 at *;unfold F4 at *
 refine ⟨by unfold Small;omega,by unfold Small;omega,by unfold Small;omega,by unfold Small;omega,by unfold Small;omega,by unfold Small;omega,by unfold Small;omega,by unfold Small;omega,fun p hpm=>?_⟩
 obtain ⟨a1,a2,_,a4⟩:=hp p hpm
 refine ⟨by have:=a1.2;unfold Small;omega,by have:=a2.2;unfold Small;omega,fun k hk=>by have:=(a4 k hk).2;unfold Small;omega⟩
theorem PB_ok {K:Nat} (hK:70000≤K) {c:Cert} (h:certOk c) (hn:c.Nodes.length≤65536):PB K c:=by
 have hr:=PR_ok hK h hn
 refine ⟨⟨hr.n.1,by have:=hr.n.2;omega⟩,fun x hx=>⟨(hr.p x hx).1,by have:=(hr.p x hx).2;omega⟩,fun x hx p hp=>⟨(hr.k x hx p hp).1,by have:=(hr.k x hx p hp).2;omega⟩,fun x hx=>?_⟩
 rw [nodeB_len]
 have hpl:=(h.2 x hx).2.1.2.2.2.2.2.2.2.2.2
 have key:∀ ps:List Pick,(∀ p ∈ ps,pickOk p)→(picksB ps).length≤1024*ps.length:=by
  intro ps
  induction ps with
  | nil=>intro _;simp [picksB]
  | cons p ps ih =>
   intro hp
   have h1:=ih fun q hq=>hp q (List.mem_cons_of_mem _ hq)
   have h2:=(hp p (List.mem_cons_self ..)).2.2.1.2
   have h3:=pickB_len p
   simp only [picksB,List.map_cons,List.flatten_cons,List.length_append,List.length_cons] at h1 ⊢
   omega
 have:=key x.Picks (h.2 x hx).2.2
 omega
theorem Put_ok {K:Nat} (hK:70000≤K) {c:Cert} (h:certOk c) (hn:c.Nodes.length≤65536) (hl:(certB c).length≤1048576):j6 K c=some (strL (certB c),0):=by
 obtain ⟨r,h1,h2⟩:=Put_spec K (by omega) c (sm_of_ok h) (PB_ok hK h hn)
 rw [h1,h2.uniq (.inr (.inr ⟨h,hn,hl,rfl⟩))]
theorem Get_strL {K:Nat} (hK:70000≤K) {L:List Int} (hb:Byt L):M7 K (strL L)=some (getR L):=by rw [Get_spec K hK,byt_back hb]
theorem awake18 (K:Nat) (hK:70000≤K):P7 K=some true:=by
 have hl:(certB c0).length=50:=rfl
 have hb:=byt_cert c0_ok (by decide)
 have h1:j6 K c0=some (strL (certB c0),0):=Put_ok hK c0_ok (by decide) (by omega)
 have h2:M7 K (strL (certB c0))=some (c0,0):=by rw [Get_strL hK hb,getR_back c0_ok (by decide) (by omega)]
 have h3:M7 K (⟨#[84,67]⟩:ByteArray)=some (⟨0,[]⟩,1800):=by rw [Get_spec K hK];rfl
 have h4:j6 K (⟨(-1),[]⟩:Cert)=some ((⟨#[]⟩:ByteArray),1800):=by
  obtain ⟨r,h1,h2⟩:=Put_spec K (by omega) ⟨(-1),[]⟩ ⟨by unfold Small;decide,by simp⟩ ⟨⟨by simp only [List.length_nil];omega,by simp⟩,by simp,by simp,by simp⟩
  rw [h1,h2.uniq (.inl ⟨fun h=>by have:=h.1.1;simp at this,rfl⟩)]
 have h5:=sameCert K c0 c0 (PR_ok hK c0_ok (by decide))
 unfold P7
 rw [show (⟨1,([(⟨true,1,(0:Int),⟨1,2,3⟩,4,5,6,([(⟨7,8,([9]:List Int)⟩:Pick)]:List Pick)⟩:Node),(⟨false,0,2,⟨(0:Int),(0:Int),(0:Int)⟩,(0:Int),(0:Int),(0:Int),([]:(List Pick))⟩:Node)]:List Node)⟩:Cert)=c0 from rfl]
 rw [h1,Option.bind_some]
 simp only
 rw [h2,Option.bind_some,h3,Option.bind_some,h4,Option.bind_some]
 have hs:(strL (certB c0)).size=50:=by rw [strL_size,hl]
 have h6:sls (strL (certB c0)) 0 2=(⟨#[84,67]⟩:ByteArray):=by
  have:=bytesL_sls (strL (certB c0)) 0 2
  rw [byt_back hb] at this
  rw [← strL_bytesL (sls (strL (certB c0)) 0 2),this]
  rfl
 rw [hs,if_pos (by decide),if_pos (by decide),if_pos h6]
 simp only [M5,Option.bind_some,if_true]
 rw [show (⟨c0.Root,c0.Nodes⟩:Cert)=c0 from rfl,h5]
 rfl
theorem mu_mem {T:Type} {mu:T→Nat} {xs:List T} {x:T} (h:x ∈ xs):mu x<muL mu xs:=by
 have:∀ xs:List T,x ∈ xs→mu x≤(xs.map mu).sum:=by
  intro xs
  induction xs with
  | nil=>intro h;nomatch h
  | cons a t ih =>
   intro h
   simp only [List.map_cons,List.sum_cons]
   rcases List.mem_cons.1 h with rfl | h
   ·omega
   ·have:=ih h;omega
 have:=this xs h
 unfold muL;omega
theorem mu_len {T:Type} {mu:T→Nat} {xs:List T} (h1:∀ x,1≤mu x):xs.length<muL mu xs:=by
 unfold muL
 have:xs.length≤(xs.map mu).sum:=by
  induction xs with
  | nil=>simp
  | cons a t ih=>have:=h1 a;simp only [List.map_cons,List.sum_cons,List.length_cons];omega
 omega
theorem picks_mu (ps:List Pick):(picksB ps).length≤4*muL muPick ps:=by
 unfold muL
 induction ps with
 | nil=>simp [picksB]
 | cons a t ih =>
  have h1:(pickB a).length≤4*muPick a:=by
   rw [pickB_len]
   have:=mu_len (mu:=muI) (xs:=a.Kids) (fun _=>Nat.le_refl 1)
   unfold muPick;simp only [muI] at *;omega
  have:picksB (a::t)=pickB a++picksB t:=by simp [picksB]
  rw [this,List.length_append]
  simp only [List.map_cons,List.sum_cons]
  omega
theorem PB_mu (c:Cert) (h:muCert c≤1048576):PB 2000000 c:=by
 have h0:muL muNode c.Nodes≤1048576:=by unfold muCert at h;omega
 have n1:=mu_len (mu:=muNode) (xs:=c.Nodes) (fun x=>by unfold muNode;omega)
 have hp:∀ x ∈ c.Nodes,muL muPick x.Picks≤1048576:=fun x hx=>by
  have:=mu_mem (mu:=muNode) hx
  have e:muL muPick x.Picks≤muNode x:=by unfold muNode;omega
  omega
 have hk:∀ x ∈ c.Nodes,∀ p ∈ x.Picks,muL muI p.Kids≤1048576:=fun x hx p hq=>by
  have:=mu_mem (mu:=muPick) hq
  have e:muL muI p.Kids≤muPick p:=by unfold muPick;omega
  have:=hp x hx
  omega
 refine ⟨⟨by omega,by omega⟩,fun x hx=>?_,fun x hx p hq=>?_,fun x hx=>?_⟩
 ·have:=mu_len (mu:=muPick) (xs:=x.Picks) (fun x=>by unfold muPick;omega)
  have:=hp x hx
  exact ⟨by omega,by omega⟩
 ·have:=mu_len (mu:=muI) (xs:=p.Kids) (fun x=>Nat.le_refl 1)
  have:=hk x hx p hq
  exact ⟨by omega,by omega⟩
 ·have:=picks_mu x.Picks
  have:=hp x hx
  rw [nodeB_len];omega
theorem PR_mu (c:Cert) (h:muCert c≤1048576):PR 2000000 c:=by
 obtain ⟨h1,h2,h3,_⟩:=PB_mu c h
 exact ⟨⟨h1.1,by omega⟩,fun x hx=>⟨(h2 x hx).1,by have:=(h2 x hx).1;omega⟩,fun x hx p hq=>⟨(h3 x hx p hq).1,by have:=(h3 x hx p hq).1;omega⟩⟩
theorem small_wf {n:Int} (h:wfI .i64 n):Small n:=by
 unfold wfI at h
 simp [Lit.wf,IntKind.min,IntKind.max,IntKind.signed,IntKind.bits] at h
 unfold Small;omega
theorem sm_wf (c:Cert) (w:cc c):certSm c:=by
 obtain ⟨w0,_,w1⟩:=w
 refine ⟨small_wf w0,fun x hx=>?_⟩
 obtain ⟨_,a1,a2,⟨a3,a4,a5⟩,a6,a7,a8,_,a9⟩:=w1 x hx
 refine ⟨small_wf a1,small_wf a2,small_wf a3,small_wf a4,small_wf a5,small_wf a6,small_wf a7,small_wf a8,fun p hp=>?_⟩
 obtain ⟨b1,b2,_,b3⟩:=a9 p hp
 exact ⟨small_wf b1,small_wf b2,fun k hk=>small_wf (b3 k hk)⟩
end Go.Proofs.Ytokccimmgilciaa

