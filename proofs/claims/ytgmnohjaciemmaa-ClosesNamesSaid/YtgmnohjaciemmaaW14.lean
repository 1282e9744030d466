import Derived.Test.YtgmnohjaciemmaaW13
namespace Go.Proofs.Ytgmnohjaciemmaa
open S Go.Sort
set_option linter.unusedVariables false
set_option linter.unusedSimpArgs false
set_option maxRecDepth 100000
def symN (i sz:Nat):List Symbol:=(List.range sz).map fun (q:Nat)=>(⟨-1,(i:Int),((i+q:Nat):Int)⟩:Symbol)
def conN (i:Nat) (sz:Nat→Nat) (j:Nat):Conjunct:=⟨decide ((j:Int) % 2=1),symN i (sz j)⟩
def rulN (m:Nat) (sz:Nat→Nat) (i:Nat):Rule:=⟨1,(List.range m).map (conN i sz)⟩
def rul0:Rule:=⟨0,[⟨false,[⟨1,0,0⟩]⟩]⟩
def grN (k m:Nat) (sz:Nat→Nat):Grammar:=⟨0,[(⟨#[83]⟩:ByteArray),(⟨#[88]⟩:ByteArray)],rul0::(List.range k).map (rulN m sz)⟩
def plN (m i:Nat):List Place:=(List.range m).map fun (j:Nat)=>(⟨((i+1:Nat):Int),(j:Int),0⟩:Place)
def wantN (k m:Nat):List Place:=⟨0,0,0⟩::(List.range k).flatMap (plN m)
theorem range_snoc {T:Type} (f:Nat→T) (j:Nat):(List.range (j+1)).map f=(List.range j).map f++[f j]:=by rw [List.range_succ,List.map_append];rfl
theorem flat_snoc {T:Type} (f:Nat→List T) (j:Nat):(List.range (j+1)).flatMap f=(List.range j).flatMap f++f j:=by rw [List.range_succ,List.flatMap_append];simp
theorem names_l2 (K:Nat) (hK:1000≤K) (sizes:Int) (i j:Nat) (sz:Nat) (hi:i≤8) (hs:iand .i64 (ishr .i64 sizes (j:Int)) 3=(sz:Int)) (h3:sz≤3):L0.l2 K sizes i j K ([],0)=some (symN i sz,(sz:Int)):=by
 obtain ⟨xs,h1,h2⟩:=invLoop (n:=sz) (L0.l2 K sizes i j) (fun q xs=>xs=symN i q) (fun m xs q hq hI=>by
  subst hI
  refine ⟨_,?_,rfl⟩
  simp only [L0.l2]
  rw [if_pos (Int.natCast_nonneg j),hs,if_pos (by omega),if_pos (by simp [symN];omega),wr (a:=(i:Int)+q) (by omega) (by omega),wr (a:=(q:Int)+1) (by omega) (by omega)]
  unfold symN
  rw [range_snoc];simp) (fun m s=>by simp only [L0.l2];rw [if_pos (Int.natCast_nonneg j),hs,if_neg (by omega)]) K (by omega) [] rfl
 rw [h1,h2]
theorem names_l1 (K:Nat) (hK:1000≤K) (conj sizes:Int) (i m:Nat) (sz:Nat→Nat) (hi:i≤8) (hm:IntKind.wrap .i64 (1+(iand .i64 conj 7))=(m:Int)) (hm8:m≤8) (hs:∀ j:Nat,j<8→iand .i64 (ishr .i64 sizes (j:Int)) 3=(sz j:Int)∧sz j≤3) (ps:List Place) (hps:ps.length≤1000) :
  L0.l1 K conj sizes i K ([],ps,0)=some ((List.range m).map (conN i sz),ps++plN m i,(m:Int)):=by
 obtain ⟨xs,ys,h1,h2,h3⟩:=invLoop2 (n:=m) (L0.l1 K conj sizes i) (fun j xs ys=>xs=(List.range j).map (conN i sz)∧ys=ps++plN j i) (fun q xs ys j hj hI=>by
  obtain ⟨rfl,rfl⟩:=hI
  refine ⟨_,_,?_,rfl,rfl⟩
  simp only [L0.l1]
  rw [hm,if_pos (by omega),names_l2 K hK sizes i j (sz j) hi (hs j (by omega)).1 (hs j (by omega)).2,Option.bind_some]
  dsimp only
  rw [if_pos (by simp;omega),if_pos (by simp [plN];omega),wr (a:=(i:Int)+1) (by omega) (by omega),wr (a:=(j:Int)+1) (by omega) (by omega),and1]
  unfold plN
  rw [range_snoc,range_snoc,List.append_assoc]
  simp [conN]) (fun q xs ys=>by simp only [L0.l1];rw [hm,if_neg (by omega)]) K (by omega) [] ps ⟨rfl,by simp [plN]⟩
 rw [h1,h2,h3]
theorem names_l0 (K:Nat) (hK:1000≤K) (rules conj sizes:Int) (k m:Nat) (sz:Nat→Nat) (hk:IntKind.wrap .i64 (1+(iand .i64 rules 7))=(k:Int)) (hk8:k≤8) (hm:IntKind.wrap .i64 (1+(iand .i64 conj 7))=(m:Int)) (hm8:m≤8) (hs:∀ j:Nat,j<8→iand .i64 (ishr .i64 sizes (j:Int)) 3=(sz j:Int)∧sz j≤3) :
  L0.l0 K rules conj sizes K ([⟨0,0,0⟩],[rul0],0)=some (wantN k m,rul0::(List.range k).map (rulN m sz),(k:Int)):=by
 obtain ⟨xs,ys,h1,h2,h3⟩:=invLoop2 (n:=k) (L0.l0 K rules conj sizes) (fun i xs ys=>xs=wantN i m∧ys=rul0::(List.range i).map (rulN m sz)) (fun q xs ys i hi hI=>by
  obtain ⟨rfl,rfl⟩:=hI
  have hwl:(wantN i m).length≤1000:=by
   have:∀ l:List Nat,(l.flatMap (plN m)).length≤l.length*8:=by
    intro l
    induction l with
    | nil=>simp
    | cons a l ih =>
     have:(plN m a).length=m:=by simp [plN]
     rw [List.flatMap_cons,List.length_append,List.length_cons,Nat.add_mul];omega
   have:=this (List.range i)
   rw [List.length_range] at this
   unfold wantN;rw [List.length_cons];omega
  refine ⟨_,_,?_,rfl,rfl⟩
  simp only [L0.l0]
  rw [hk,if_pos (by omega),names_l1 K hK conj sizes i m sz (by omega) hm hm8 hs _ hwl,Option.bind_some]
  dsimp only
  rw [if_pos (by simp;omega),wr (a:=(i:Int)+1) (by omega) (by omega)]
  unfold wantN
  rw [range_snoc,flat_snoc]
  rfl) (fun q xs ys=>by simp only [L0.l0];rw [hk,if_neg (by omega)]) K (by omega) [⟨0,0,0⟩] [rul0] ⟨rfl,rfl⟩
 rw [h1,h2,h3]
theorem grN_may {k m:Nat} {sz:Nat→Nat} (hk:1≤k) (hk8:k≤8) (hm:1≤m) (hm8:m≤8) (hs:∀ j,j<8→sz j≤3):mayP (grN k m sz):=by
 have hru:∀ i,i<k→ruleP 2 (rulN m sz i)∧sumR (rulN m sz i)≤24:=fun i hi=>by
  refine ⟨⟨by simp [rulN];omega,by simp [rulN];omega,fun c hc=>?_⟩,?_⟩
  ·simp only [rulN,List.mem_map,List.mem_range] at hc
   obtain ⟨j,hj,rfl⟩:=hc
   have h3:=hs j (by omega)
   refine ⟨by simp [conN,symN];omega,fun s hs'=>?_⟩
   simp only [conN,symN,List.mem_map,List.mem_range] at hs'
   obtain ⟨q,hq,rfl⟩:=hs'
   exact .inl ⟨rfl,by simp,(by simp;omega),by simp;omega⟩
  ·have:∀ l:List Nat,(∀ j ∈ l,j<8)→sumC (l.map (conN i sz))≤l.length*3:=by
    intro l
    induction l with
    | nil=>intro _;simp [sumC]
    | cons j l ih =>
     intro h
     have h1:=ih fun x hx=>h x (.tail _ hx)
     have h2:=hs j (h j (.head _))
     rw [List.map_cons,sumC,List.length_cons,Nat.add_mul]
     have:(conN i sz j).Seq.length=sz j:=by simp [conN,symN]
     omega
   have:=this (List.range m) fun j hj=>by have:=List.mem_range.1 hj;omega
   rw [List.length_range] at this
   show sumC ((List.range m).map (conN i sz))≤24
   omega
 have hch:∀ (l:List Nat),(∀ i ∈ l,i<k)→chainP 2 1 (l.map (rulN m sz)):=by
  intro l
  induction l with
  | nil=>intro _;rfl
  | cons i l ih =>
   intro h
   exact ⟨(hru i (h i (.head _))).1,.inl rfl,ih fun x hx=>h x (.tail _ hx)⟩
 have htot:∀ (l:List Nat),(∀ i ∈ l,i<k)→total (l.map (rulN m sz))≤l.length*24:=by
  intro l
  induction l with
  | nil=>intro _;simp [total]
  | cons i l ih =>
   intro h
   have h1:=ih fun x hx=>h x (.tail _ hx)
   have h2:=(hru i (h i (.head _))).2
   rw [List.map_cons,total,List.length_cons,Nat.add_mul];omega
 refine ⟨⟨by simp [grN],by simp [grN],fun s hs=>?_,by simp [grN]⟩,by simp [grN],by simp [grN],by simp [grN],by simp [grN];omega,rfl,?_,?_⟩
 ·simp only [grN,List.mem_cons,List.not_mem_nil,or_false] at hs
  rcases hs with rfl | rfl
  ·refine ⟨by decide,by decide,by decide,by unfold letterP;decide,fun i hi=>?_⟩
   have:i=0:=by have:i<1:=hi;omega
   subst this
   exact .inl (by unfold letterP;decide)
  ·refine ⟨by decide,by decide,by decide,by unfold letterP;decide,fun i hi=>?_⟩
   have:i=0:=by have:i<1:=hi;omega
   subst this
   exact .inl (by unfold letterP;decide)
 ·refine ⟨⟨by decide,by decide,fun c hc=>?_⟩,.inr rfl,?_⟩
  ·simp only [rul0,List.mem_cons,List.not_mem_nil,or_false] at hc
   subst hc
   refine ⟨by decide,fun s hs=>?_⟩
   simp only [List.mem_cons,List.not_mem_nil,or_false] at hs
   subst hs
   exact .inr ⟨by decide,by simp [grN],rfl,rfl⟩
  ·cases k with
   | zero=>omega
   | succ k =>
    show chainP 2 0 ((List.range (k+1)).map (rulN m sz))
    rw [List.range_succ_eq_map,List.map_cons]
    refine ⟨(hru 0 (by omega)).1,.inr rfl,?_⟩
    exact hch _ fun i hi=>by
     obtain ⟨j,hj,rfl⟩:=List.mem_map.1 hi
     have:=List.mem_range.1 hj
     omega
 ·have:=htot (List.range k) fun i hi=>List.mem_range.1 hi
  rw [List.length_range] at this
  show sumR rul0+total ((List.range k).map (rulN m sz))≤1024
  have:sumR rul0=1:=rfl
  omega
theorem grN_rule {k m:Nat} {sz:Nat→Nat} {i:Nat} (hi:i<k):rd (grN k m sz).Rules ((i+1:Nat):Int)=rulN m sz i:=by
 unfold grN
 rw [rd_nat,List.getD_eq_getElem?_getD]
 simp [hi]
theorem mem_wantN {k m:Nat} {p:Place}:p ∈ wantN k m↔p=⟨0,0,0⟩∨∃ i j:Nat,i<k∧j<m∧p=⟨((i+1:Nat):Int),(j:Int),0⟩:=by
 unfold wantN plN
 simp only [List.mem_cons,List.mem_flatMap,List.mem_map,List.mem_range]
 constructor
 ·rintro (h | ⟨i,hi,j,hj,rfl⟩)
  ·exact .inl h
  ·exact .inr ⟨i,j,hi,hj,rfl⟩
 ·rintro (h | ⟨i,j,hi,hj,rfl⟩)
  ·exact .inl h
  ·exact .inr ⟨i,hi,j,hj,rfl⟩
theorem begs_N {k m:Nat} {sz:Nat→Nat} {p:Place}:p ∈ begs (grN k m sz) 1↔∃ i j:Nat,i<k∧j<m∧p=⟨((i+1:Nat):Int),(j:Int),0⟩:=by
 rw [mem_begs]
 constructor
 ·rintro ⟨h1,h2,h3,h4,h5,h6⟩
  by_cases h0:p.Rule=0
  ·rw [h0] at h3;cases h3
  ·have hl:(grN k m sz).Rules.length=k+1:=by simp [grN]
   obtain ⟨i,hi⟩:∃ i:Nat,p.Rule=((i+1:Nat):Int):=⟨p.Rule.toNat-1,by omega⟩
   have hik:i<k:=by omega
   rw [hi,grN_rule hik] at h5
   have hcl:(rulN m sz i).Conj.length=m:=by simp [rulN]
   refine ⟨i,p.Conj.toNat,hik,by omega,?_⟩
   cases p
   simp only [Place.mk.injEq] at *
   exact ⟨hi,by omega,h6⟩
 ·rintro ⟨i,j,hi,hj,rfl⟩
  have hl:(grN k m sz).Rules.length=k+1:=by simp [grN]
  have hcl:(rulN m sz i).Conj.length=m:=by simp [rulN]
  dsimp only
  rw [grN_rule hi]
  exact ⟨by omega,by omega,rfl,by omega,by omega,rfl⟩
theorem seq0 {k m:Nat} {sz:Nat→Nat} (q:Int):seqOf (grN k m sz) ⟨0,0,q⟩=[⟨1,0,0⟩]:=rfl
theorem cl_want {k m:Nat} {sz:Nat→Nat} (hm8:m≤8):IsCl (grN k m sz) [⟨0,0,0⟩] (wantN k m):=by
 refine IsCl.of ?_ (fun p hp=>?_) (fun p hp=>?_) fun q hq n hn p hp=>?_
 ·unfold wantN
  refine List.pairwise_cons.2 ⟨fun p hp=>?_,List.pairwise_flatMap.2 ⟨fun a _=>?_,List.pairwise_lt_range.imp fun {a b} hab x hx y hy=>?_⟩⟩
  ·simp only [plN,List.mem_flatMap,List.mem_map] at hp
   obtain ⟨i,_,j,_,rfl⟩:=hp
   exact .inl (by show (0:Int)<((i+1:Nat):Int);omega)
  ·unfold plN
   refine List.pairwise_map.2 (List.pairwise_lt_range.imp fun {x y} h=>.inr ⟨rfl,.inl ?_⟩)
   show (x:Int)<(y:Int);omega
  ·simp only [plN,List.mem_map] at hx hy
   obtain ⟨i,_,rfl⟩:=hx
   obtain ⟨j,_,rfl⟩:=hy
   exact .inl (by show ((a+1:Nat):Int)<((b+1:Nat):Int);omega)
 ·simp only [List.mem_cons,List.not_mem_nil,or_false] at hp
  exact mem_wantN.2 (.inl hp)
 ·rcases mem_wantN.1 hp with rfl | h
  ·exact .base (by simp)
  ·exact .step (n:=1) (.base (p:=⟨0,0,0⟩) (by simp)) ⟨by rw [seq0];decide,by rw [seq0];rfl,by decide⟩ (begs_N.2 h)
 ·rcases mem_wantN.1 hq with rfl | ⟨i,j,hi,hj,rfl⟩
  ·have:n=1:=by have:=hn.2.1;rw [seq0] at this;exact this.symm
   subst this
   exact mem_wantN.2 (.inr (begs_N.1 hp))
  ·obtain ⟨h1,h2,h3⟩:=hn
   have e:seqOf (grN k m sz) ⟨((i+1:Nat):Int),(j:Int),0⟩=symN i (sz j):=by
    unfold seqOf
    dsimp only
    rw [grN_rule hi]
    have:rd (rulN m sz i).Conj (j:Int)=conN i sz j:=by
     unfold rulN;rw [rd_nat,List.getD_eq_getElem?_getD];simp [hj]
    rw [this];rfl
   rw [e] at h1 h2
   have hmem:=rd_mem (Int.le_refl 0) h1
   dsimp only at hmem h2
   unfold symN at hmem
   simp only [List.mem_map] at hmem
   obtain ⟨q,_,hq⟩:=hmem
   unfold symN at h2
   rw [← hq] at h2
   have:(-1:Int)=n:=h2
   omega
theorem Names_holds (rules conj sizes:Int):∃ K,L0 K rules conj sizes=some true:=by
 refine ⟨KW,?_⟩
 have hK:KW≤KW:=Nat.le_refl _
 have hKW:KW=140737488355328:=rfl
 obtain ⟨k,hk,hk1,hk8⟩:∃ k:Nat,IntKind.wrap .i64 (1+(iand .i64 rules 7))=(k:Int)∧1≤k∧k≤8:=⟨(1+rules % 8).toNat,by rw [and7,wr (by omega) (by omega)];omega,by omega,by omega⟩
 obtain ⟨m,hm,hm1,hm8⟩:∃ m:Nat,IntKind.wrap .i64 (1+(iand .i64 conj 7))=(m:Int)∧1≤m∧m≤8:=⟨(1+conj % 8).toNat,by rw [and7,wr (by omega) (by omega)];omega,by omega,by omega⟩
 have hs:∀ j:Nat,j<8→iand .i64 (ishr .i64 sizes (j:Int)) 3=(((ishr .i64 sizes (j:Int)) % 4).toNat:Int)∧((ishr .i64 sizes (j:Int)) % 4).toNat≤3:=fun j _=>by rw [and3];omega
 generalize hsz:(fun j:Nat=>((ishr .i64 sizes (j:Int)) % 4).toNat)=sz
 have hs':∀ j:Nat,j<8→iand .i64 (ishr .i64 sizes (j:Int)) 3=(sz j:Int)∧sz j≤3:=fun j hj=>by rw [← hsz];exact hs j hj
 have hmay:mayP (grN k m sz):=grN_may hk1 hk8 hm1 hm8 fun j hj=>(hs' j hj).2
 have hw:=cl_want (k:=k) (m:=m) (sz:=sz) hm8
 have hl:(grN k m sz).Rules.length=k+1:=by simp [grN]
 have ho:∀ q:Int,0≤q→q≤1→okP (grN k m sz) ⟨0,0,q⟩:=fun q h0 h1=>⟨Int.le_refl 0,by show (0:Int)<_;omega,Int.le_refl 0,by show (0:Int)<((rul0.Conj.length:Nat):Int);decide,h0,by rw [seq0];exact h1⟩
 have c1:=(close_rl KW hK hmay (ps:=[⟨0,0,0⟩]) (fun p hp=>by simp at hp;subst hp;exact ho 0 (by decide) (by decide)) (by simp)).1
 have c2:=(close_rl KW hK hmay (ps:=[⟨0,0,1⟩,⟨0,0,1⟩]) (fun p hp=>by simp at hp;subst hp;exact ho 1 (by decide) (by decide)) (by simp)).1
 have c3:=(close_rl KW hK hmay (ps:=[]) (fun p hp=>by simp at hp) (by simp)).1
 rw [clos_of hw] at c1
 rw [clos_of (show IsCl (grN k m sz) [⟨0,0,1⟩,⟨0,0,1⟩] [⟨0,0,1⟩] from IsCl.of (by simp) (fun p hp=>by simpa using hp) (fun p hp=>.base (by simpa using hp)) fun q hq n hn p hp=>by
  simp at hq;subst hq
  have:=hn.1
  rw [seq0] at this
  exact absurd this (by decide))] at c2
 rw [clos_of (show IsCl (grN k m sz) [] [] from IsCl.of (by simp) (fun p hp=>hp) (fun p hp=>by cases hp) fun q hq=>by cases hq)] at c3
 have hwl:(wantN k m).length≤262144:=(hw.rl fun p hp=>by simp at hp;subst hp;exact ho 0 (by decide) (by decide)).len (may_bd hmay)
 unfold L0
 rw [awake13 KW hK,Option.bind_some,if_neg (show ¬ (!true)=true by decide),show ([(⟨(0:Int),([(⟨false,([(⟨1,(0:Int),(0:Int)⟩:Symbol)]:List Symbol)⟩:Conjunct)]:List Conjunct)⟩:Rule)]:List Rule)=[rul0] from rfl,names_l0 KW (by omega) rules conj sizes k m sz hk hk8 hm hm8 hs',Option.bind_some]
 show ((j5 KW (grN k m sz) [⟨0,0,0⟩]).bind fun r_40=>(j5 KW (grN k m sz) [⟨0,0,1⟩,⟨0,0,1⟩]).bind fun r_43=>(j5 KW (grN k m sz) []).bind _)=some true
 rw [c1,Option.bind_some,c2,Option.bind_some,c3,Option.bind_some]
 unfold m3
 rw [Option.bind_some,if_pos rfl,SamePl_spec KW _ _ (by show (wantN k m).length<_;omega) (by show (wantN k m).length≤_;omega),Option.bind_some,if_pos (by simp),Option.bind_some,if_pos rfl,SamePl_spec KW _ _ (by simp;omega) (by simp),Option.bind_some,if_pos (by simp),if_pos (by simp),Option.bind_some]
 rfl
end Go.Proofs.Ytgmnohjaciemmaa

