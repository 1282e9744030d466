import Derived.Shelf.SlSortCmp.InsertionK
import Derived.Shelf.SlSortCmp.NoneTotal
import Derived.Test.YtgmnohjaciemmaaProg
import Derived.Laws.BitsLemmas
import Derived.Shelf.SlLaysF0
import Derived.Test.YtgmnohjaciemmaaW3
namespace Go.Proofs.Ytgmnohjaciemmaa
namespace S
open Go.RowKit Go.Sort
set_option linter.unusedVariables false
set_option linter.unusedSimpArgs false
set_option linter.unusedSectionVars false
theorem world_grown {W w':World} (hb:Base W w' (fun _=>False)):∃ q os',w'=grow (W.drewN q) os':=by
 obtain ⟨h1,h2,h3,h4,h5,h6⟩:=hb
 refine ⟨w'.drawn-W.drawn,w'.heap.extract W.heap.size w'.heap.size,?_⟩
 have hh:w'.heap=W.heap++w'.heap.extract W.heap.size w'.heap.size:=by
  apply Array.ext_getElem?
  intro i
  rw [Array.getElem?_append]
  split
  ·rename_i hi;exact h6 i hi id
  ·rename_i hi
   rw [Array.getElem?_extract]
   split
   ·congr 1;omega
   ·rw [Array.getElem?_eq_none (by omega)]
 cases W;cases w'
 simp only at h1 h2 h3 h4 hh
 simp only [grow,World.drewN,World.mk.injEq]
 exact ⟨hh,h2,by omega,h1,h3⟩
theorem allP_of_lits {Z:Nat→Prop} {w:World}:∀ us:List Value,AllP Z w (us.map AV.lit) us
 | []=>.nil
 | _::us=>.cons rfl (allP_of_lits us)
section
variable {P:Program} {κ:Type} [Inhabited κ] {c:Co κ} {lits:κ→List Value}
theorem lits_len (hl:∀ x,c.e x=(lits x).map AV.lit) (x:κ):(lits x).length=c.sz:=by
 have:=c.len x;rw [hl,List.length_map] at this;exact this
theorem cmpLays_of (hl:∀ x,c.e x=(lits x).map AV.lit) {cf:κ→κ→Int} {gc:Nat} (hcmp:∀ x y,Pure P gc [.agg (c.e x),.agg (c.e y)] (some (cf x y)) fun r=>Ai .i64 r) (blk off size:Nat) (w:World) :
  CmpLays P gc #[] lits c.sz cf blk off size w:=by
 intro m os dk hs x y
 have hx:∀ z:κ,(AV.agg (c.e z)).p (fun _=>False) (sortWorldK lits c.sz w blk off m dk os) (.agg (lits z).toArray):=fun z=>⟨lits z,rfl,by rw [hl];exact allP_of_lits _⟩
 have:=hcmp x y _ rfl (sortWorldK lits c.sz w blk off m dk os) (fun _=>False) (fun _=>False) [.agg (lits x).toArray,.agg (lits y).toArray] (.cons (hx x) (.cons (hx y) .nil)) ⟨Base.refl _ _,fun _ h=>h,fun _ h=>h.elim,fun _ h=>h.elim,trivial⟩
 refine this.mono ?_
 rintro e w' ⟨v,rfl,F,Z,av,H,⟨rfl,rfl⟩,hinv,hv⟩
 have hv':v = .int .i64 (cf x y):=hv
 subst hv'
 exact ⟨rfl,world_grown hinv.base⟩
theorem own_lits (hl:∀ x,c.e x=(lits x).map AV.lit) {Z:Nat→Prop} {w:World} {xs:List κ} {cs:List Value} (hr:Rows c Z w xs cs) (j:Nat) (hj:j<xs.length*c.sz):cs[j]?=some ((flatK lits c.sz xs.toArray)[j]!):=by
 have hpos:=c.pos
 have hi:j / c.sz<xs.length:=by rw [Nat.div_lt_iff_lt_mul hpos];exact hj
 have hx:xs[j / c.sz]?=some xs[j / c.sz]:=by simp [hi]
 obtain ⟨vs,h1,h2⟩:=hr _ _ hx
 rw [hl] at h1
 have hvs:=allP_lits h1
 subst hvs
 have hm:j % c.sz<(lits xs[j / c.sz]).length:=by rw [lits_len hl];exact Nat.mod_lt _ hpos
 have:=h2 (j % c.sz) ((lits xs[j / c.sz])[j % c.sz]) (by simp [hm])
 rw [Nat.div_add_mod'] at this
 rw [this,get_flatK _ _ _ _ (by simpa using hj)]
 congr 1
 simp [hi,hm]
theorem rows_flat (hl:∀ x,c.e x=(lits x).map AV.lit) (Z:Nat→Prop) (w:World) (ys:List κ):Rows c Z w ys (flatK lits c.sz ys.toArray).toList:=by
 intro i x hx
 have hi:i<ys.length:=(List.getElem?_eq_some_iff.1 hx).1
 refine ⟨lits x,by rw [hl];exact allP_of_lits _,fun q u hq=>?_⟩
 have hql:q<c.sz:=by rw [← lits_len hl x];exact (List.getElem?_eq_some_iff.1 hq).1
 have hj:i*c.sz+q<ys.length*c.sz:=by
  have:=Nat.mul_le_mul_right c.sz (show i+1≤ys.length from hi)
  rw [Nat.add_mul] at this;omega
 have h1:(i*c.sz+q) / c.sz=i:=by rw [Nat.mul_comm,Nat.mul_add_div c.pos,Nat.div_eq_of_lt hql,Nat.add_zero]
 have h2:(i*c.sz+q) % c.sz=q:=by rw [Nat.mul_comm,Nat.mul_add_mod,Nat.mod_eq_of_lt hql]
 have:=get_flatK lits c.sz ys.toArray (i*c.sz+q) (by simpa using hj)
 rw [h1,h2] at this
 have hsz:i*c.sz+q<(flatK lits c.sz ys.toArray).toList.length:=by simpa using hj
 rw [List.getElem?_eq_getElem hsz]
 rw [getElem!_pos _ _ (by simpa using hj)] at this
 simp only [Array.getElem_toList,this]
 obtain ⟨hq1,hq2⟩:=List.getElem?_eq_some_iff.1 hq
 have hxi:ys[i]=x:=(List.getElem?_eq_some_iff.1 hx).2
 simp [hi,hxi,hq1,hq2]
end
end S
namespace S
open Go.RowKit Go.Sort
set_option linter.unusedVariables false
set_option linter.unusedSimpArgs false
set_option linter.unusedSectionVars false
def SortedBy {κ:Type} [Inhabited κ] (cf:κ→κ→Int) (ys:List κ):Prop:=SortedIn (ltOf cf) 0 ys.length ys.toArray
set_option maxHeartbeats 1000000 in
theorem sortFn {P:Program} {ρ:Go.Shelf.Ren} (L:SlLaysF0.n6 P ρ) {κ:Type} [Inhabited κ] {c:Co κ} {lits:κ→List Value} (hl:∀ x,c.e x=(lits x).map AV.lit) (h1:∀ x,∀ v ∈ lits x,v.oneCell'=true)
  (gE:IsAgg P (ρ.t 24) true) (zE:SizeIs P (ρ.t 24) c.sz) {cf:κ→κ→Int} (hO:SWO (ltOf cf)) {gc:Nat} (hgc:Ent P gc) (hcmp:∀ x y,Pure P gc [.agg (c.e x),.agg (c.e y)] (some (cf x y)) fun r=>Ai .i64 r) {v:Value} {xs:List κ} (hlen:xs.length<4611686018427387904) :
  Spec P (ρ.f 6) [.sv v,.lit (.func (.func gc) #[] #[])] [.own (ρ.t 24) c v xs] fun a H=>∃ ys,ys.Perm xs∧SortedBy cf ys∧H=[.own (ρ.t 24) c v ys]:=by
 intro w F Z vs hvs hi
 cases hvs with
 | @cons _ u _ vs' hu hvs' =>
 cases hvs' with
 | @cons _ fv _ vs'' hfv hvs'' =>
 cases hvs''
 obtain ⟨rfl,_⟩:=hu
 have hfv':fv = .func (.func gc) #[] #[]:=hfv
 subst hfv'
 obtain ⟨F1,hown,hF1⟩:=hi.res.at (j:=0) rfl
 obtain ⟨A,m,hv⟩:=own_sv hown
 by_cases hx:xs=[]
 ·subst hx
  rw [hv]
  refine (AnyF.slices_SortFunc_none L A m (.func (.func gc) #[] #[]) w).mono ?_
  rintro e w' ⟨rfl,rfl⟩
  rw [← hv]
  exact ⟨_,rfl,F,Z,.any,_,⟨[],List.Perm.refl _,fun i j _ _ h=>by simp at h,rfl⟩,hi,trivial⟩
 have hx0:xs.length≠0:=fun h=>hx (List.length_eq_zero_iff.1 h)
 obtain ⟨cs,⟨hcl,hor⟩,hb,hrows⟩ | ⟨rfl,_⟩:=hown
 case inr=>exact absurd rfl hx
 rcases hor with ⟨_,hn0⟩ | ⟨g,cap,cur,hvg,hg,⟨fz,hh,hfz⟩,hcap,hmx,hcs,htk⟩
 ·exact absurd hn0 hx0
 have hgl:g<w.heap.size:=(Array.getElem?_eq_some_iff.1 hh).1
 have hnk:xs.length*c.sz≤cap*c.sz:=Nat.mul_le_mul_right _ hcap
 have hcell:∀ j,j<xs.length*c.sz→cur[j]?=some ((flatK lits c.sz xs.toArray)[j]!):=fun j hj=>by
  have:=own_lits hl hrows j hj
  rw [← htk,List.getElem?_take,if_pos hj] at this
  simpa using this
 have hH:HoldsK lits c.sz w g 0 xs.toArray:=by
  intro j hj
  rw [size_flatK] at hj
  have hj':j<xs.length*c.sz:=by simpa using hj
  refine ⟨?_,?_⟩
  ·simp only [World.cell?,hh,Nat.zero_add]
   simpa using hcell j hj'
  ·simp only [World.frozen?,hh,Nat.zero_add]
   rcases hfz with rfl | hfz
   ·simp
   ·have:¬ fz.1≤j:=by omega
    simp [this]
 have hcall:=AnyQ.slices_SortFunc L c.sz gE zE lits (lits_len hl) h1 cf hO gc #[] g 0 cap xs.toArray w hgc (cmpLays_of hl hcmp g 0 xs.toArray.size w) hH hgl (by simpa using hlen)
 rw [show (xs.toArray.size)=xs.length from by simp,← hvg] at hcall
 refine hcall.mono ?_
 rintro e w' ⟨rfl,d',n,os,hperm,hsort,rfl⟩
 have hds:d'.size=xs.length:=by simpa using hperm.1
 have hpl:d'.toList.Perm xs:=by
  have:=(show (d'.extract 0 xs.length).toList.Perm (xs.toArray.extract 0 xs.length).toList from by simpa [hds] using hperm.2.2)
  rw [show d'.extract 0 xs.length=d' from by rw [← hds];exact Array.extract_size,show xs.toArray.extract 0 xs.length=xs.toArray from by rw [show xs.length=xs.toArray.size from by simp];exact Array.extract_size] at this
  simpa using this
 obtain ⟨F',hi',hk⟩:=hi.turn (w':=sortWorldK lits c.sz w g 0 n d' os) (r':=.own (ρ.t 24) c u d'.toList) (j:=0) rfl fun F1 hown1 hz1=>by
  have hg1:F1 g:=by
   obtain ⟨_,_,hb1,_⟩ | ⟨rfl,_⟩:=hown1
   ·exact hb1 g (by rw [hvg];rfl)
   ·exact absurd rfl hx
  refine ⟨F1,⟨rfl,rfl,rfl,Nat.le_add_right _ _,by simp [sortWorldK,grow,putRowK,putRow,mapBlock,ahead],fun b hbl hnb=>?_⟩,.inl ⟨(flatK lits c.sz d').toList,⟨by simp [hds],.inr ⟨g,cap,putCells id 0 (flatK lits c.sz d') cur,by simpa [hds] using hvg,Nat.zero_le _,⟨fz,?_,by simpa [putCells] using hfz⟩,by simpa [hds] using hcap,hmx,by simpa [putCells] using hcs,?_⟩⟩,fun b hb'=>?_,?_⟩,fun _ h=>.inl h⟩
  ·have hne:g≠b:=fun e=>hnb (e ▸ hg1)
   simp only [sortWorldK,grow,putRowK,putRow,mapBlock,ahead]
   rw [Array.getElem?_append_left (by simpa using hbl),Array.getElem?_modify,if_neg hne]
   rfl
  ·simp only [sortWorldK,grow,putRowK,putRow,mapBlock,ahead]
   rw [Array.getElem?_append_left (by simpa using hgl),Array.getElem?_modify,if_pos rfl,show (Sort.ahead w n).heap=w.heap from rfl,hh]
   rfl
  ·apply List.ext_getElem?
   intro j
   have hsz:(flatK lits c.sz d').size=xs.length*c.sz:=by simp [hds]
   rw [List.getElem?_take]
   simp only [Array.length_toList,hds]
   split
   ·rename_i hj
    simp only [Array.getElem?_toList,putCells,Array.getElem?_mapIdx,Nat.zero_add,Nat.zero_le,true_and,Nat.sub_zero,hsz,hj,if_true,hcell j hj,Option.map_some,id]
    rw [Array.getElem?_eq_getElem (by omega),getElem!_pos _ _ (by omega)]
   ·rename_i hj
    rw [List.getElem?_eq_none (by simp [hds];omega)]
  ·have:b=g:=by rw [hvg] at hb';simpa [Value.ownBlock] using hb'.symm
   subst this;exact hg1
  ·have:=rows_flat hl Z (sortWorldK lits c.sz w g 0 n d' os) d'.toList
   simpa using this
 exact ⟨_,rfl,F',Z,.any,_,⟨d'.toList,hpl,by unfold SortedBy;simpa [hds] using hsort,rfl⟩,hi',trivial⟩
end S
namespace S
open Go.RowKit Go.Sort
set_option linter.unusedVariables false
set_option linter.unusedSectionVars false
section
variable {κ:Type} [Inhabited κ] {cf:κ→κ→Int}
def sortL (cf:κ→κ→Int) (ks:List κ):List κ:=ks.mergeSort fun x y=>!(ltOf cf y x)
theorem sortedBy_pairwise {ys:List κ} (h:SortedBy cf ys):ys.Pairwise fun x y=>(!(ltOf cf y x))=true:=by
 rw [List.pairwise_iff_getElem]
 intro i j hi hj hij
 have:=h i j (Nat.zero_le _) hij hj
 simpa [hi,hj] using this
theorem perm_unique {r:κ→κ→Prop} (ha:∀ x y,r x y→r y x→x=y):∀ {ys zs:List κ},ys.Perm zs→ys.Pairwise r→zs.Pairwise r→ys=zs
 | [],zs,hp,_,_=>by rw [List.nil_perm.1 hp]
 | y::ys,[],hp,_,_=>by have:=hp.length_eq;simp at this
 | y::ys,z::zs,hp,h1,h2=>by
  obtain ⟨h1a,h1b⟩:=List.pairwise_cons.1 h1
  obtain ⟨h2a,h2b⟩:=List.pairwise_cons.1 h2
  have hyz:y=z:=by
   have hy:y ∈ z::zs:=hp.subset (.head _)
   have hz:z ∈ y::ys:=hp.symm.subset (.head _)
   rcases List.mem_cons.1 hy with e | hy
   ·exact e
   rcases List.mem_cons.1 hz with e | hz
   ·exact e.symm
   exact ha _ _ (h1a z hz) (h2a y hy)
  subst hyz
  rw [perm_unique ha (List.Perm.cons_inv hp) h1b h2b]
theorem sortL_is (hO:SWO (ltOf cf)) (ha:∀ x y,ltOf cf x y=false→ltOf cf y x=false→x=y) {ys ks:List κ} (hp:ys.Perm ks) (hs:SortedBy cf ys):ys=sortL cf ks:=by
 refine perm_unique (r:=fun x y=>(!(ltOf cf y x))=true) (fun x y h1 h2=>ha x y (by simpa using h2) (by simpa using h1)) (hp.trans (List.mergeSort_perm _ _).symm) (sortedBy_pairwise hs) ?_
 refine List.pairwise_mergeSort (fun a b c h1 h2=>?_) (fun a b=>?_) _
 ·have:=hO.ntrans c b a (by simpa using h2) (by simpa using h1)
  simpa using this
 ·by_cases h:ltOf cf b a=true
  ·have:ltOf cf a b=false:=by
    cases hab:ltOf cf a b with
    | false=>rfl
    | true=>have:=hO.trans _ _ _ h hab;rw [hO.irrefl] at this;cases this
   simp [this]
  ·simp [h]
end
end S
open S
set_option linter.unusedVariables false
structure Symbol where
 Name:Int
 Lo:Int
 Hi:Int
 deriving DecidableEq
def zSymbol:Symbol:=⟨(0:Int),(0:Int),(0:Int)⟩
instance:Inhabited Symbol:=⟨zSymbol⟩
def cSymbol:Co Symbol:=⟨fun x=>[Ai .i64 x.Name,Ai .i64 x.Lo,Ai .i64 x.Hi],3,by decide,fun _=>rfl,fun _=>⟨oLit rfl,oLit rfl,oLit rfl,trivial⟩⟩
structure Conjunct where
 Neg:Bool
 Seq:(List Symbol)
 deriving DecidableEq
def zConjunct:Conjunct:=⟨false,([]:(List Symbol))⟩
instance:Inhabited Conjunct:=⟨zConjunct⟩
def cConjunct:Co Conjunct:=⟨fun x=>[Ab x.Neg,.fsl cSymbol x.Seq],2,by decide,fun _=>rfl,fun _=>⟨oLit rfl,oFsl,trivial⟩⟩
structure Rule where
 Head:Int
 Conj:(List Conjunct)
 deriving DecidableEq
def zRule:Rule:=⟨(0:Int),([]:(List Conjunct))⟩
instance:Inhabited Rule:=⟨zRule⟩
def cRule:Co Rule:=⟨fun x=>[Ai .i64 x.Head,.fsl cConjunct x.Conj],2,by decide,fun _=>rfl,fun _=>⟨oLit rfl,oFsl,trivial⟩⟩
structure Grammar where
 Start:Int
 Names:(List ByteArray)
 Rules:(List Rule)
 deriving DecidableEq
def zGrammar:Grammar:=⟨(0:Int),([]:(List ByteArray)),([]:(List Rule))⟩
instance:Inhabited Grammar:=⟨zGrammar⟩
def cGrammar:Co Grammar:=⟨fun x=>[Ai .i64 x.Start,.fsl cS x.Names,.fsl cRule x.Rules],3,by decide,fun _=>rfl,fun _=>⟨oLit rfl,oFsl,oFsl,trivial⟩⟩
structure Place where
 Rule:Int
 Conj:Int
 Pos:Int
 deriving DecidableEq
def zPlace:Place:=⟨(0:Int),(0:Int),(0:Int)⟩
instance:Inhabited Place:=⟨zPlace⟩
def cPlace:Co Place:=⟨fun x=>[Ai .i64 x.Rule,Ai .i64 x.Conj,Ai .i64 x.Pos],3,by decide,fun _=>rfl,fun _=>⟨oLit rfl,oLit rfl,oLit rfl,trivial⟩⟩
structure Move where
 From:Int
 Symbol:Symbol
 To:Int
 deriving DecidableEq
def zMove:Move:=⟨(0:Int),(zSymbol:Symbol),(0:Int)⟩
instance:Inhabited Move:=⟨zMove⟩
def cMove:Co Move:=⟨fun x=>[Ai .i64 x.From,Ai .i64 x.Symbol.Name,Ai .i64 x.Symbol.Lo,Ai .i64 x.Symbol.Hi,Ai .i64 x.To],5,by decide,fun _=>rfl,fun _=>⟨oLit rfl,oLit rfl,oLit rfl,oLit rfl,oLit rfl,trivial⟩⟩
structure Automaton where
 States:(List (List Place))
 Moves:(List Move)
 deriving DecidableEq
def zAutomaton:Automaton:=⟨([]:(List (List Place))),([]:(List Move))⟩
instance:Inhabited Automaton:=⟨zAutomaton⟩
def cAutomaton:Co Automaton:=⟨fun x=>[.fsl (cL cPlace) x.States,.fsl cMove x.Moves],2,by decide,fun _=>rfl,fun _=>⟨oFsl,oFsl,trivial⟩⟩
structure Items_builder where
 g:Grammar
 a:Automaton
 by_:(List (ByteArray×Int))
 deriving DecidableEq
structure Edge where
 From:Int
 To:Int
 Neg:Bool
 deriving DecidableEq
def zEdge:Edge:=⟨(0:Int),(0:Int),false⟩
instance:Inhabited Edge:=⟨zEdge⟩
def Qa (x:Symbol):Prop:=(wfI .i64) x.Name∧(wfI .i64) x.Lo∧(wfI .i64) x.Hi
def W9 (x:Conjunct):Prop:=wfB x.Neg∧(wfL Qa 24) x.Seq
def yb (x:Rule):Prop:=(wfI .i64) x.Head∧(wfL W9 32) x.Conj
def fa (x:Grammar):Prop:=(wfI .i64) x.Start∧(wfL wfS 16) x.Names∧(wfL yb 32) x.Rules
def ma (x:Place):Prop:=(wfI .i64) x.Rule∧(wfI .i64) x.Conj∧(wfI .i64) x.Pos
theorem al25:∀ w,(Instr.alloc 25 true (.tuple #[])).run Try.prog w = .ok (.pointer (some ⟨w.heap.size,0,none⟩)) (w.alloc (.cells ([.int .i64 0,.slice none 0 0,.slice none 0 0]:List Value).toArray 25)):=fun _=>by kernel_rfl
theorem fa25_0:FA Try.prog 25 0 0:=fun _ _=>by kernel_rfl
theorem g3:IsAgg Try.prog 3 false:=fun _=>by kernel_rfl
theorem z9:SizeIs Try.prog 9 1:=fun _=>by kernel_rfl
theorem Vd:Info Try.prog 9 (.string ⟨#[]⟩) 1 16:=by unfold Info;kernel_rfl
theorem fa25_1:FA Try.prog 25 1 1:=fun _ _=>by kernel_rfl
theorem g22:IsAgg Try.prog 22 false:=fun _=>by kernel_rfl
theorem mixed:Try.prog.follows .mixedOrders=true:=by kernel_rfl
theorem zv25:∀ w,(zeroValue 25).run Try.prog w = .ok (.agg ([.int .i64 0,.slice none 0 0,.slice none 0 0]:List Value).toArray) w:=fun _=>by kernel_rfl
theorem pl25:∀ w,((#[{ name := "Start",type:=3,offset:=0,embedded:=false,tag := "",pkgPath := "",byteOffset:=0 },{ name := "Names",type:=22,offset:=1,embedded:=false,tag := "",pkgPath := "",byteOffset:=8 },{ name := "Rules",type:=23,offset:=2,embedded:=false,tag := "",pkgPath := "",byteOffset:=32 }]:Array Field).mapM (m:=Sem) fun f=>do pure (f.offset,← sizeOf f.type)).run Try.prog w = .ok #[(0,1),(1,1),(2,1)] w:=fun _=>by kernel_rfl
theorem z25:SizeIs Try.prog 25 3:=fun _=>by kernel_rfl
theorem fa25_2:FA Try.prog 25 2 2:=fun _ _=>by kernel_rfl
theorem g23:IsAgg Try.prog 23 false:=fun _=>by kernel_rfl
theorem z61:SizeIs Try.prog 61 2:=fun _=>by kernel_rfl
theorem fa61_0:FA Try.prog 61 0 0:=fun _ _=>by kernel_rfl
theorem zv61:∀ w,(zeroValue 61).run Try.prog w = .ok (.agg ([.int .i64 0,.slice none 0 0]:List Value).toArray) w:=fun _=>by kernel_rfl
theorem pl61:∀ w,((#[{ name := "Head",type:=3,offset:=0,embedded:=false,tag := "",pkgPath := "",byteOffset:=0 },{ name := "Conj",type:=59,offset:=1,embedded:=false,tag := "",pkgPath := "",byteOffset:=8 }]:Array Field).mapM (m:=Sem) fun f=>do pure (f.offset,← sizeOf f.type)).run Try.prog w = .ok #[(0,1),(1,1)] w:=fun _=>by kernel_rfl
theorem fa61_1:FA Try.prog 61 1 1:=fun _ _=>by kernel_rfl
theorem g59:IsAgg Try.prog 59 false:=fun _=>by kernel_rfl
theorem z58:SizeIs Try.prog 58 2:=fun _=>by kernel_rfl
theorem g58:IsAgg Try.prog 58 true:=fun _=>by kernel_rfl
theorem al58:∀ w,(Instr.alloc 58 true (.tuple #[])).run Try.prog w = .ok (.pointer (some ⟨w.heap.size,0,none⟩)) (w.alloc (.cells ([.bool false,.slice none 0 0]:List Value).toArray 58)):=fun _=>by kernel_rfl
theorem g4:IsAgg Try.prog 4 false:=fun _=>by kernel_rfl
theorem z51:SizeIs Try.prog 51 3:=fun _=>by kernel_rfl
theorem jb:Info Try.prog 51 (.agg #[.int .i64 0,.int .i64 0,.int .i64 0]) 3 24:=by unfold Info;kernel_rfl
theorem fa58_1:FA Try.prog 58 1 1:=fun _ _=>by kernel_rfl
theorem g56:IsAgg Try.prog 56 false:=fun _=>by kernel_rfl
theorem zv58:∀ w,(zeroValue 58).run Try.prog w = .ok (.agg ([.bool false,.slice none 0 0]:List Value).toArray) w:=fun _=>by kernel_rfl
theorem pl58:∀ w,((#[{ name := "Neg",type:=4,offset:=0,embedded:=false,tag := "",pkgPath := "",byteOffset:=0 },{ name := "Seq",type:=56,offset:=1,embedded:=false,tag := "",pkgPath := "",byteOffset:=8 }]:Array Field).mapM (m:=Sem) fun f=>do pure (f.offset,← sizeOf f.type)).run Try.prog w = .ok #[(0,1),(1,1)] w:=fun _=>by kernel_rfl
theorem Jb:Info Try.prog 58 (.agg #[.bool false,.slice none 0 0]) 2 32:=by unfold Info;kernel_rfl
theorem Lc:Info Try.prog 61 (.agg #[.int .i64 0,.slice none 0 0]) 2 32:=by unfold Info;kernel_rfl
theorem g25:IsAgg Try.prog 25 true:=fun _=>by kernel_rfl
theorem z55:SizeIs Try.prog 55 3:=fun _=>by kernel_rfl
theorem y5:Info Try.prog 55 (.agg #[.int .i64 0,.int .i64 0,.int .i64 0]) 3 24:=by unfold Info;kernel_rfl
theorem zv55:∀ w,(zeroValue 55).run Try.prog w = .ok (.agg ([.int .i64 0,.int .i64 0,.int .i64 0]:List Value).toArray) w:=fun _=>by kernel_rfl
theorem pl55:∀ w,((#[{ name := "Rule",type:=3,offset:=0,embedded:=false,tag := "",pkgPath := "",byteOffset:=0 },{ name := "Conj",type:=3,offset:=1,embedded:=false,tag := "",pkgPath := "",byteOffset:=8 },{ name := "Pos",type:=3,offset:=2,embedded:=false,tag := "",pkgPath := "",byteOffset:=16 }]:Array Field).mapM (m:=Sem) fun f=>do pure (f.offset,← sizeOf f.type)).run Try.prog w = .ok #[(0,1),(1,1),(2,1)] w:=fun _=>by kernel_rfl
theorem ent74:Ent Try.prog 74:=fun _ _=>by kernel_rfl
theorem ent75:Ent Try.prog 75:=fun _ _=>by kernel_rfl
theorem g9:IsAgg Try.prog 9 false:=fun _=>by kernel_rfl
theorem ent66:Ent Try.prog 66:=fun _ _=>by kernel_rfl
theorem mk9:MK Try.prog 9 (fun x:ByteArray=>Value.string x):=mkStr Try.underlying9
theorem zv4:∀ w,(zeroValue 4).run Try.prog w = .ok (.bool false) w:=fun _=>by kernel_rfl
theorem fa51_0:FA Try.prog 51 0 0:=fun _ _=>by kernel_rfl
theorem fa51_1:FA Try.prog 51 1 1:=fun _ _=>by kernel_rfl
theorem fa51_2:FA Try.prog 51 2 2:=fun _ _=>by kernel_rfl
theorem g51:IsAgg Try.prog 51 true:=fun _=>by kernel_rfl
theorem al51:∀ w,(Instr.alloc 51 true (.tuple #[])).run Try.prog w = .ok (.pointer (some ⟨w.heap.size,0,none⟩)) (w.alloc (.cells ([.int .i64 0,.int .i64 0,.int .i64 0]:List Value).toArray 51)):=fun _=>by kernel_rfl
theorem ent67:Ent Try.prog 67:=fun _ _=>by kernel_rfl
theorem ent49:Ent Try.prog 49:=fun _ _=>by kernel_rfl
theorem ent50:Ent Try.prog 50:=fun _ _=>by kernel_rfl
theorem fa55_0:FA Try.prog 55 0 0:=fun _ _=>by kernel_rfl
theorem fa55_1:FA Try.prog 55 1 1:=fun _ _=>by kernel_rfl
theorem fa55_2:FA Try.prog 55 2 2:=fun _ _=>by kernel_rfl
theorem g55:IsAgg Try.prog 55 true:=fun _=>by kernel_rfl
theorem ent30:Ent Try.prog 30:=fun _ _=>by kernel_rfl
theorem zv51:∀ w,(zeroValue 51).run Try.prog w = .ok (.agg ([.int .i64 0,.int .i64 0,.int .i64 0]:List Value).toArray) w:=fun _=>by kernel_rfl
theorem pl51:∀ w,((#[{ name := "Name",type:=3,offset:=0,embedded:=false,tag := "",pkgPath := "",byteOffset:=0 },{ name := "Lo",type:=3,offset:=1,embedded:=false,tag := "",pkgPath := "",byteOffset:=8 },{ name := "Hi",type:=3,offset:=2,embedded:=false,tag := "",pkgPath := "",byteOffset:=16 }]:Array Field).mapM (m:=Sem) fun f=>do pure (f.offset,← sizeOf f.type)).run Try.prog w = .ok #[(0,1),(1,1),(2,1)] w:=fun _=>by kernel_rfl
theorem ent79:Ent Try.prog 79:=fun _ _=>by kernel_rfl
theorem z3:SizeIs Try.prog 3 1:=fun _=>by kernel_rfl
theorem ent72:Ent Try.prog 72:=fun _ _=>by kernel_rfl
theorem Wd:Info Try.prog 3 (.int .i64 0) 1 8:=by unfold Info;kernel_rfl
theorem ent71:Ent Try.prog 71:=fun _ _=>by kernel_rfl
def litsPlace (x:Place):List Value:=[.int .i64 x.Rule,.int .i64 x.Conj,.int .i64 x.Pos]
def kvPlace (x:Place):Value:=.agg (litsPlace x).toArray
theorem ent52:Ent Try.prog 52:=fun _ _=>by kernel_rfl
theorem al55:∀ w,(Instr.alloc 55 true (.tuple #[])).run Try.prog w = .ok (.pointer (some ⟨w.heap.size,0,none⟩)) (w.alloc (.cells ([.int .i64 0,.int .i64 0,.int .i64 0]:List Value).toArray 55)):=fun _=>by kernel_rfl
theorem eqi55 {d:Nat} (w:World) (x y:Place):(Op.equalIn (d+2) 55 (.agg (litsPlace x).toArray) (.agg (litsPlace y).toArray)).run Try.prog w = .ok (decide (x=y)) w:=by
 have hu:Try.prog.underlying 55=some (.struct (Try.prog.fieldsOf 55)):=by kernel_rfl
 have hp:Try.prog.stoodInHeld 55=false:=by kernel_rfl
 have hf:(Try.prog.fieldsOf 55).toList=[{ name := "Rule",type:=3,offset:=0,embedded:=false,tag := "",pkgPath := "",byteOffset:=0 },{ name := "Conj",type:=3,offset:=1,embedded:=false,tag := "",pkgPath := "",byteOffset:=8 },{ name := "Pos",type:=3,offset:=2,embedded:=false,tag := "",pkgPath := "",byteOffset:=16 }]:=by kernel_rfl
 rw [run_equalIn_struct w _ 55 _ _ hu hp,hf]
 rw [eqF_int (f:={ name := "Rule",type:=3,offset:=0,embedded:=false,tag := "",pkgPath := "",byteOffset:=0 }) (a:=x.Rule) (b:=y.Rule) (by decide +kernel) g3 Try.underlying3 rfl rfl,eqF_int (f:={ name := "Conj",type:=3,offset:=1,embedded:=false,tag := "",pkgPath := "",byteOffset:=8 }) (a:=x.Conj) (b:=y.Conj) (by decide +kernel) g3 Try.underlying3 rfl rfl,eqF_int (f:={ name := "Pos",type:=3,offset:=2,embedded:=false,tag := "",pkgPath := "",byteOffset:=16 }) (a:=x.Pos) (b:=y.Pos) (by decide +kernel) g3 Try.underlying3 rfl rfl,eqF_nil]
 simp only [ok_ite]
 exact congrArg (fun b=>Result.ok b w) (decide_eq_decide.2 ⟨fun h=>by cases x;cases y;simp_all,fun h=>by subst h;simp⟩)
theorem ck55 (w:World) (em:Bool) (x:Place):(Instr.checkKey em 10000 55 (kvPlace x)).run Try.prog w = .ok () w:=by
 have hu:Try.prog.underlying 55=some (.struct (Try.prog.fieldsOf 55)):=by kernel_rfl
 have hf:(Try.prog.fieldsOf 55).toList=[{ name := "Rule",type:=3,offset:=0,embedded:=false,tag := "",pkgPath := "",byteOffset:=0 },{ name := "Conj",type:=3,offset:=1,embedded:=false,tag := "",pkgPath := "",byteOffset:=8 },{ name := "Pos",type:=3,offset:=2,embedded:=false,tag := "",pkgPath := "",byteOffset:=16 }]:=by kernel_rfl
 refine run_check_st (m:=9999) hu ?_
 rw [hf]
 exact ⟨fun _=>⟨_,part_one g3 rfl,Go.MapKept.run_checkKey (k:=.int .i64 x.Rule) Try.underlying3 rfl em 9998⟩,fun _=>⟨_,part_one g3 rfl,Go.MapKept.run_checkKey (k:=.int .i64 x.Conj) Try.underlying3 rfl em 9998⟩,fun _=>⟨_,part_one g3 rfl,Go.MapKept.run_checkKey (k:=.int .i64 x.Pos) Try.underlying3 rfl em 9998⟩,trivial⟩
theorem mk55:MK Try.prog 55 kvPlace:=mkSt (by kernel_rfl) (fun a b h=>by cases a;cases b;simp [litsPlace] at h;simp [h]) ck55 (fun w x y=>eqi55 (d:=9998) w x y) (fun x v hv=>by simp [litsPlace] at hv;rcases hv with rfl | rfl | rfl <;> simp [Instr.sameBits])
theorem ent53:Ent Try.prog 53:=fun _ _=>by kernel_rfl
theorem mk3:MK Try.prog 3 (fun x:Int=>Value.int .i64 x):=mkInt Try.underlying3
theorem ent35:Ent Try.prog 35:=fun _ _=>by kernel_rfl
theorem ent55:Ent Try.prog 55:=fun _ _=>by kernel_rfl
theorem ent54:Ent Try.prog 54:=fun _ _=>by kernel_rfl
theorem ent27:Ent Try.prog 27:=fun _ _=>by kernel_rfl
theorem ent29:Ent Try.prog 29:=fun _ _=>by kernel_rfl
theorem ent51:Ent Try.prog 51:=fun _ _=>by kernel_rfl
theorem ent28:Ent Try.prog 28:=fun _ _=>by kernel_rfl
theorem ent31:Ent Try.prog 31:=fun _ _=>by kernel_rfl
theorem eq55 {n:Nat} {fr:Fr} {H:List Res} {t' ty:TypeId} {a b:Operand} {x y:Place} (hx:arg fr a=some (.agg (cPlace.e x))) (hy:arg fr b=some (.agg (cPlace.e y))):D Try.prog n H (.binOp .eql 55 a b t') ty fr (Ab (decide (x=y))):=je litsPlace (by kernel_rfl) (fun _=>rfl) (fun w x y=>eqi55 (d:=9998) w x y) hx hy
theorem eq55n {n:Nat} {fr:Fr} {H:List Res} {t' ty:TypeId} {a b:Operand} {x y:Place} (hx:arg fr a=some (.agg (cPlace.e x))) (hy:arg fr b=some (.agg (cPlace.e y))):D Try.prog n H (.binOp .neq 55 a b t') ty fr (Ab (decide (x≠y))):=fc litsPlace (by kernel_rfl) (fun _=>rfl) (fun w x y=>eqi55 (d:=9998) w x y) hx hy
theorem z4:SizeIs Try.prog 4 1:=fun _=>by kernel_rfl
theorem z5:SizeIs Try.prog 5 1:=fun _=>by kernel_rfl
theorem cc:Info Try.prog 5 (.int .u8 0) 1 1:=by unfold Info;kernel_rfl
theorem ent58:Ent Try.prog 58:=fun _ _=>by kernel_rfl
theorem fa78_2:FA Try.prog 78 2 3:=fun _ _=>by kernel_rfl
theorem g76:IsAgg Try.prog 76 false:=fun _=>by kernel_rfl
theorem zv3:∀ w,(zeroValue 3).run Try.prog w = .ok (.int .i64 0) w:=fun _=>by kernel_rfl
theorem fa78_1:FA Try.prog 78 1 1:=fun _ _=>by kernel_rfl
theorem fa37_0:FA Try.prog 37 0 0:=fun _ _=>by kernel_rfl
theorem g34:IsAgg Try.prog 34 false:=fun _=>by kernel_rfl
def cLPlaceG:Co ((List Place)×Value):=⟨fun x=>[.sv x.2],1,by decide,fun _=>rfl,fun _=>⟨oSv,trivial⟩⟩
abbrev W2:Tg (List Place):=⟨Value,26,cLPlaceG,(cL cPlace),fun x u=>[.own 55 cPlace u x],rfl,fun hc h=>lend_ok (.o 0 rfl (.n)) hc h⟩
theorem z26:SizeIs Try.prog 26 1:=fun _=>by kernel_rfl
theorem Lb:Info Try.prog 26 (.slice none 0 0) 1 24:=by unfold Info;kernel_rfl
theorem z34:SizeIs Try.prog 34 1:=fun _=>by kernel_rfl
def litsSymbol (x:Symbol):List Value:=[.int .i64 x.Name,.int .i64 x.Lo,.int .i64 x.Hi]
def kvSymbol (x:Symbol):Value:=.agg (litsSymbol x).toArray
theorem g26:IsAgg Try.prog 26 false:=fun _=>by kernel_rfl
theorem fa78_0:FA Try.prog 78 0 0:=fun _ _=>by kernel_rfl
theorem g70:IsAgg Try.prog 70 false:=fun _=>by kernel_rfl
theorem eqi51 {d:Nat} (w:World) (x y:Symbol):(Op.equalIn (d+2) 51 (.agg (litsSymbol x).toArray) (.agg (litsSymbol y).toArray)).run Try.prog w = .ok (decide (x=y)) w:=by
 have hu:Try.prog.underlying 51=some (.struct (Try.prog.fieldsOf 51)):=by kernel_rfl
 have hp:Try.prog.stoodInHeld 51=false:=by kernel_rfl
 have hf:(Try.prog.fieldsOf 51).toList=[{ name := "Name",type:=3,offset:=0,embedded:=false,tag := "",pkgPath := "",byteOffset:=0 },{ name := "Lo",type:=3,offset:=1,embedded:=false,tag := "",pkgPath := "",byteOffset:=8 },{ name := "Hi",type:=3,offset:=2,embedded:=false,tag := "",pkgPath := "",byteOffset:=16 }]:=by kernel_rfl
 rw [run_equalIn_struct w _ 51 _ _ hu hp,hf]
 rw [eqF_int (f:={ name := "Name",type:=3,offset:=0,embedded:=false,tag := "",pkgPath := "",byteOffset:=0 }) (a:=x.Name) (b:=y.Name) (by decide +kernel) g3 Try.underlying3 rfl rfl,eqF_int (f:={ name := "Lo",type:=3,offset:=1,embedded:=false,tag := "",pkgPath := "",byteOffset:=8 }) (a:=x.Lo) (b:=y.Lo) (by decide +kernel) g3 Try.underlying3 rfl rfl,eqF_int (f:={ name := "Hi",type:=3,offset:=2,embedded:=false,tag := "",pkgPath := "",byteOffset:=16 }) (a:=x.Hi) (b:=y.Hi) (by decide +kernel) g3 Try.underlying3 rfl rfl,eqF_nil]
 simp only [ok_ite]
 exact congrArg (fun b=>Result.ok b w) (decide_eq_decide.2 ⟨fun h=>by cases x;cases y;simp_all,fun h=>by subst h;simp⟩)
theorem ck51 (w:World) (em:Bool) (x:Symbol):(Instr.checkKey em 10000 51 (kvSymbol x)).run Try.prog w = .ok () w:=by
 have hu:Try.prog.underlying 51=some (.struct (Try.prog.fieldsOf 51)):=by kernel_rfl
 have hf:(Try.prog.fieldsOf 51).toList=[{ name := "Name",type:=3,offset:=0,embedded:=false,tag := "",pkgPath := "",byteOffset:=0 },{ name := "Lo",type:=3,offset:=1,embedded:=false,tag := "",pkgPath := "",byteOffset:=8 },{ name := "Hi",type:=3,offset:=2,embedded:=false,tag := "",pkgPath := "",byteOffset:=16 }]:=by kernel_rfl
 refine run_check_st (m:=9999) hu ?_
 rw [hf]
 exact ⟨fun _=>⟨_,part_one g3 rfl,Go.MapKept.run_checkKey (k:=.int .i64 x.Name) Try.underlying3 rfl em 9998⟩,fun _=>⟨_,part_one g3 rfl,Go.MapKept.run_checkKey (k:=.int .i64 x.Lo) Try.underlying3 rfl em 9998⟩,fun _=>⟨_,part_one g3 rfl,Go.MapKept.run_checkKey (k:=.int .i64 x.Hi) Try.underlying3 rfl em 9998⟩,trivial⟩
theorem mk51:MK Try.prog 51 kvSymbol:=mkSt (by kernel_rfl) (fun a b h=>by cases a;cases b;simp [litsSymbol] at h;simp [h]) ck51 (fun w x y=>eqi51 (d:=9998) w x y) (fun x v hv=>by simp [litsSymbol] at hv;rcases hv with rfl | rfl | rfl <;> simp [Instr.sameBits])
theorem zv26:∀ w,(zeroValue 26).run Try.prog w = .ok (.slice none 0 0) w:=fun _=>by kernel_rfl
theorem fa37_1:FA Try.prog 37 1 1:=fun _ _=>by kernel_rfl
theorem g35:IsAgg Try.prog 35 false:=fun _=>by kernel_rfl
theorem ent34:Ent Try.prog 34:=fun _ _=>by kernel_rfl
theorem zv53:∀ w,(zeroValue 53).run Try.prog w = .ok (.agg ([.int .i64 0,.int .i64 0,.int .i64 0,.int .i64 0,.int .i64 0]:List Value).toArray) w:=fun _=>by kernel_rfl
theorem pl53:∀ w,((#[{ name := "From",type:=3,offset:=0,embedded:=false,tag := "",pkgPath := "",byteOffset:=0 },{ name := "Symbol",type:=51,offset:=1,embedded:=false,tag := "",pkgPath := "",byteOffset:=8 },{ name := "To",type:=3,offset:=4,embedded:=false,tag := "",pkgPath := "",byteOffset:=32 }]:Array Field).mapM (m:=Sem) fun f=>do pure (f.offset,← sizeOf f.type)).run Try.prog w = .ok #[(0,1),(1,3),(4,1)] w:=fun _=>by kernel_rfl
theorem z53:SizeIs Try.prog 53 5:=fun _=>by kernel_rfl
theorem gb:Info Try.prog 53 (.agg #[.int .i64 0,.int .i64 0,.int .i64 0,.int .i64 0,.int .i64 0]) 5 40:=by unfold Info;kernel_rfl
theorem z35:SizeIs Try.prog 35 1:=fun _=>by kernel_rfl
theorem al37:∀ w,(Instr.alloc 37 true (.tuple #[])).run Try.prog w = .ok (.pointer (some ⟨w.heap.size,0,none⟩)) (w.alloc (.cells ([.slice none 0 0,.slice none 0 0]:List Value).toArray 37)):=fun _=>by kernel_rfl
theorem zv37:∀ w,(zeroValue 37).run Try.prog w = .ok (.agg ([.slice none 0 0,.slice none 0 0]:List Value).toArray) w:=fun _=>by kernel_rfl
theorem pl37:∀ w,((#[{ name := "States",type:=34,offset:=0,embedded:=false,tag := "",pkgPath := "",byteOffset:=0 },{ name := "Moves",type:=35,offset:=1,embedded:=false,tag := "",pkgPath := "",byteOffset:=24 }]:Array Field).mapM (m:=Sem) fun f=>do pure (f.offset,← sizeOf f.type)).run Try.prog w = .ok #[(0,1),(1,1)] w:=fun _=>by kernel_rfl
theorem z37:SizeIs Try.prog 37 2:=fun _=>by kernel_rfl
theorem g37:IsAgg Try.prog 37 true:=fun _=>by kernel_rfl
theorem zv78:∀ w,(zeroValue 78).run Try.prog w = .ok (.agg ([.pointer none,.slice none 0 0,.slice none 0 0,.map none]:List Value).toArray) w:=fun _=>by kernel_rfl
theorem pl78:∀ w,((#[{ name := "g",type:=70,offset:=0,embedded:=false,tag := "",pkgPath := "temple/items",byteOffset:=0 },{ name := "a",type:=37,offset:=1,embedded:=false,tag := "",pkgPath := "temple/items",byteOffset:=8 },{ name := "by",type:=76,offset:=3,embedded:=false,tag := "",pkgPath := "temple/items",byteOffset:=56 }]:Array Field).mapM (m:=Sem) fun f=>do pure (f.offset,← sizeOf f.type)).run Try.prog w = .ok #[(0,1),(1,2),(3,1)] w:=fun _=>by kernel_rfl
theorem ent36:Ent Try.prog 36:=fun _ _=>by kernel_rfl
theorem g53:IsAgg Try.prog 53 true:=fun _=>by kernel_rfl
def litsMove (x:Move):List Value:=[.int .i64 x.From,.int .i64 x.Symbol.Name,.int .i64 x.Symbol.Lo,.int .i64 x.Symbol.Hi,.int .i64 x.To]
theorem eqi53 {d:Nat} (w:World) (x y:Move):(Op.equalIn (d+3) 53 (.agg (litsMove x).toArray) (.agg (litsMove y).toArray)).run Try.prog w = .ok (decide (x=y)) w:=by
 have hu:Try.prog.underlying 53=some (.struct (Try.prog.fieldsOf 53)):=by kernel_rfl
 have hp:Try.prog.stoodInHeld 53=false:=by kernel_rfl
 have hf:(Try.prog.fieldsOf 53).toList=[{ name := "From",type:=3,offset:=0,embedded:=false,tag := "",pkgPath := "",byteOffset:=0 },{ name := "Symbol",type:=51,offset:=1,embedded:=false,tag := "",pkgPath := "",byteOffset:=8 },{ name := "To",type:=3,offset:=4,embedded:=false,tag := "",pkgPath := "",byteOffset:=32 }]:=by kernel_rfl
 rw [run_equalIn_struct w _ 53 _ _ hu hp,hf]
 rw [eqF_int (f:={ name := "From",type:=3,offset:=0,embedded:=false,tag := "",pkgPath := "",byteOffset:=0 }) (a:=x.From) (b:=y.From) (by decide +kernel) g3 Try.underlying3 rfl rfl,eqF_agg (f:={ name := "Symbol",type:=51,offset:=1,embedded:=false,tag := "",pkgPath := "",byteOffset:=8 }) (p:=x.Symbol=y.Symbol) (us:=litsSymbol x.Symbol) (vs:=litsSymbol y.Symbol) (by decide +kernel) g51 z51 rfl rfl (eqi51 w _ _),eqF_int (f:={ name := "To",type:=3,offset:=4,embedded:=false,tag := "",pkgPath := "",byteOffset:=32 }) (a:=x.To) (b:=y.To) (by decide +kernel) g3 Try.underlying3 rfl rfl,eqF_nil]
 simp only [ok_ite]
 exact congrArg (fun b=>Result.ok b w) (decide_eq_decide.2 ⟨fun h=>by cases x;cases y;simp_all,fun h=>by subst h;simp⟩)
theorem eq53n {n:Nat} {fr:Fr} {H:List Res} {t' ty:TypeId} {a b:Operand} {x y:Move} (hx:arg fr a=some (.agg (cMove.e x))) (hy:arg fr b=some (.agg (cMove.e y))):D Try.prog n H (.binOp .neq 53 a b t') ty fr (Ab (decide (x≠y))):=fc litsMove (by kernel_rfl) (fun _=>rfl) (fun w x y=>eqi53 (d:=9997) w x y) hx hy
theorem ent41:Ent Try.prog 41:=fun _ _=>by kernel_rfl
theorem ent15:Ent Try.prog 15:=fun _ _=>by kernel_rfl
theorem ent13:Ent Try.prog 13:=fun _ _=>by kernel_rfl
theorem ent11:Ent Try.prog 11:=fun _ _=>by kernel_rfl
theorem ent16:Ent Try.prog 16:=fun _ _=>by kernel_rfl
theorem ent21:Ent Try.prog 21:=fun _ _=>by kernel_rfl
def muSymbol (x:Symbol):Nat:=(muI x.Name+(muI x.Lo+(muI x.Hi+0)))+1
def muConjunct (x:Conjunct):Nat:=(muB x.Neg+((muL muSymbol) x.Seq+0))+1
def muRule (x:Rule):Nat:=(muI x.Head+((muL muConjunct) x.Conj+0))+1
def muGrammar (x:Grammar):Nat:=(muI x.Start+((muL muS) x.Names+((muL muRule) x.Rules+0)))+1
def muPlace (x:Place):Nat:=(muI x.Rule+(muI x.Conj+(muI x.Pos+0)))+1
namespace S
set_option linter.unusedVariables false
set_option linter.unusedSimpArgs false
theorem wr {a:Int} (h0:-9223372036854775808≤a) (h1:a≤9223372036854775807):IntKind.wrap .i64 a=a:=by rw [IntKind.wrap_i64];omega
theorem wb {a:Int} (h0:0≤a) (h1:a<256):IntKind.wrap .u8 a=a:=by rw [IntKind.wrap_u8];omega
theorem rounds {σ ρ:Type} {L:Nat→σ→Option ρ} (I:σ→Prop) (μ:σ→Nat) (Q:ρ→Prop)
  (step:∀ s m,I s→(∃ r,L (m+1) s=some r∧Q r)∨∃ s',I s'∧μ s'<μ s∧L (m+1) s=L m s'):∀ m s,I s→μ s<m→∃ r,L m s=some r∧Q r:=by
 intro m
 induction m with
 | zero=>intro s _ h;exact absurd h (Nat.not_lt_zero _)
 | succ m ih =>
  intro s hi hm
  rcases step s m hi with h | ⟨s',hi',hlt,he⟩
  ·exact h
  ·obtain ⟨r,h1,h2⟩:=ih s' hi' (by omega)
   exact ⟨r,he.trans h1,h2⟩
variable {T:Type} [Inhabited T]
theorem rd_nat (xs:List T) (i:Nat):rd xs (i:Int)=xs.getD i default:=rfl
theorem rd_set {xs:List T} {i j:Nat} (x:T) (hi:i<xs.length):rd (xs.set i x) (j:Int)=if i=j then x else rd xs (j:Int):=by
 simp only [rd,Int.toNat_natCast,List.getD_eq_getElem?_getD,List.getElem?_set]
 by_cases e:i=j
 ·subst e;simp [hi]
 ·simp [e]
theorem rd_mem {xs:List T} {i:Int} (h0:0≤i) (h:i<xs.length):rd xs i ∈ xs:=List.mem_of_getElem? (rd_get h0 h)
theorem rd_rep {n i:Nat} (x:T) (h:i<n):rd (List.replicate n x) (i:Int)=x:=by simp [rd,List.getD_eq_getElem?_getD,h]
end S
def firstOf {ρ:Type} (B:Nat→Option ρ):Nat→Nat→Option ρ
 | 0,_=>none
 | k+1,i=>match B i with | some r=>some r | none=>firstOf B k (i+1)
theorem firstOf_none {ρ:Type} {B:Nat→Option ρ}:∀ {k i:Nat},firstOf B k i=none↔∀ j,i≤j→j<i+k→B j=none
 | 0,i=>⟨fun _ j h1 h2=>by omega,fun _=>rfl⟩
 | k+1,i=>by
  unfold firstOf
  constructor
  ·intro h j h1 h2
   split at h
   ·cases h
   ·rename_i hb
    rcases Nat.eq_or_lt_of_le h1 with rfl | h1
    ·exact hb
    ·exact firstOf_none.1 h j (by omega) (by omega)
  ·intro h
   rw [h i (Nat.le_refl _) (by omega)]
   exact firstOf_none.2 fun j h1 h2=>h j (by omega) (by omega)
theorem firstOf_some {ρ:Type} {B:Nat→Option ρ} {r:ρ}:∀ {k i:Nat},firstOf B k i=some r→∃ j,i≤j∧j<i+k∧B j=some r∧∀ q,i≤q→q<j→B q=none
 | 0,i,h=>by cases h
 | k+1,i,h=>by
  unfold firstOf at h
  split at h
  ·rename_i hb;cases h;exact ⟨i,Nat.le_refl _,by omega,hb,fun q h1 h2=>by omega⟩
  ·rename_i hb
   obtain ⟨j,h1,h2,h3,h4⟩:=firstOf_some h
   exact ⟨j,by omega,by omega,h3,fun q q1 q2=>by
    rcases Nat.eq_or_lt_of_le q1 with rfl | q1
    ·exact hb
    ·exact h4 q (by omega) q2⟩
theorem scan {ρ:Type} (n:Nat) (L:Nat→Int→Option (Int ⊕ ρ)) (B:Nat→Option ρ)
  (step:∀ m i,i<n→L (m+1) (i:Int)=match B i with | some r=>some (.inr r) | none=>L m ((i:Int)+1))
  (stop:∀ m,L (m+1) (n:Int)=some (.inl (n:Int))):∀ k i m,i+k=n→k<m→L m (i:Int)=some (match firstOf B k i with | some r=>.inr r | none=>.inl (n:Int)):=by
 intro k
 induction k with
 | zero =>
  intro i m hi hm
  obtain ⟨m,rfl⟩:∃ q,m=q+1:=⟨m-1,by omega⟩
  have:i=n:=by omega
  subst this
  exact stop m
 | succ k ih =>
  intro i m hi hm
  obtain ⟨m,rfl⟩:∃ q,m=q+1:=⟨m-1,by omega⟩
  rw [step m i (by omega)]
  unfold firstOf
  cases B i with
  | some r=>rfl
  | none=>simpa using ih (i+1) m (by omega) (by omega)
set_option maxRecDepth 100000
set_option maxHeartbeats 4000000
def j4.l1 (K:Nat) (a1:Grammar) (i23:Int):Nat→((List Conjunct)×Int)→Option ((List Conjunct)×Int)
 | 0,_=>none
 | m+1,(xs30,j31)=>if j31<(((rd a1.Rules i23).Conj).length:Int) then if 0≤j31 then if (([]:List Symbol).length+((rd ((rd a1.Rules i23).Conj) j31).Seq).length)*24≤140737488355328 then if (xs30.length+1)*32≤140737488355328 then j4.l1 K a1 i23 m (xs30++[(⟨(rd ((rd a1.Rules i23).Conj) j31).Neg,([]:List Symbol)++((rd ((rd a1.Rules i23).Conj) j31).Seq)⟩:Conjunct)],IntKind.wrap .i64 (j31+1)) else none else none else none else some (xs30,j31)
def j4.l0 (K:Nat) (a1:Grammar):Nat→((List Rule)×Int)→Option ((List Rule)×Int)
 | 0,_=>none
 | m+1,(xs22,i23)=>if i23<(a1.Rules.length:Int) then if 0≤i23 then (j4.l1 K a1 i23 K (([]:List Conjunct),0)).bind fun (xs30,j31)=>if (xs22.length+1)*32≤140737488355328 then j4.l0 K a1 m (xs22++[(⟨(rd a1.Rules i23).Head,xs30⟩:Rule)],IntKind.wrap .i64 (i23+1)) else none else none else some (xs22,i23)
def j4 (K:Nat) (a1:Grammar):Option Grammar:=if (([]:List ByteArray).length+a1.Names.length)*16≤140737488355328 then (some ()).bind fun _=>(j4.l0 K a1 K (([]:List Rule),0)).bind fun (xs22,i23)=>some (⟨a1.Start,([]:List ByteArray)++a1.Names,xs22⟩:Grammar) else none
def G8 (K:Nat) (a1:(List Place)):Option (List Place):=if (([]:List Place).length+a1.length)*24≤140737488355328 then some (([]:List Place)++a1) else none
def Q8 (K:Nat) (a1:(List Place)):Option ((List Place)×Int):=(G8 K a1).bind fun r2=>if (r2.length+([(⟨77777,(0:Int),(0:Int)⟩:Place),(⟨77777,(0:Int),(0:Int)⟩:Place)]:List Place).length)*24≤140737488355328 then if (a1.length:Int)≤((r2++([(⟨77777,(0:Int),(0:Int)⟩:Place),(⟨77777,(0:Int),(0:Int)⟩:Place)]:List Place)).length:Int) then some (r2++([(⟨77777,(0:Int),(0:Int)⟩:Place),(⟨77777,(0:Int),(0:Int)⟩:Place)]:List Place),(a1.length:Int)) else none else none
def L7 (K:Nat) (c1:Int):Option Bool:=if 65≤c1 then if c1≤90 then some true else if 97≤c1 then if c1≤122 then some true else some (decide (c1=95)) else some (decide (c1=95)) else if 97≤c1 then if c1≤122 then some true else some (decide (c1=95)) else some (decide (c1=95))
theorem k9 (K:Nat) (c1:Int):Pure Try.prog 74 [Ai .u8 c1] (L7 K c1) (fun r=>Ab r):=by
 refine spec_of' Try.func74 rfl Try.ntmps74 (le_ rfl) ?_
 refine sSR Y<|sA Y Y<|sES Y<|sM Y Y<|sQ (dGe Y Y) Y<|sM Y Y<|M4 (fun h2=>?_) (fun h2=>?_)
 ·refine sG 2 Y Y Y (dT h2) Y (dMv Y) Y<|sG 2 Y Y Y (dT h2) Y (dLe Y Y) Y<|sQ (L1 Y (dT h2) Y) Y<|sM Y Y<|M4 (fun h3=>?_) (fun h3=>?_)
  ·refine sU 6 Y Y Y (dT h3) Y Y<|sU 6 Y Y Y (dT h3) Y Y<|sU 6 Y Y Y (dT h3) Y Y<|sQv (j:=9) Y Y Y Y Y<|sQv (j:=9) Y Y Y Y Y<|sU 6 Y Y Y (dT h3) Y Y<|sQ (L1 Y (dT h3) Y) Y<|sM Y Y<|sU 14 Y Y Y Y Y Y<|sU 14 Y Y Y Y Y Y<|sQ (L1 Y Y Y) Y<|sA Y Y<|j0<|Q1 [] Try.func74 Try.results74 (rT Y) ⟨Y,Y⟩
  ·refine sG 6 Y Y Y (dF h3) Y (dMv Y) Y<|sG 6 Y Y Y (dF h3) Y (dGe Y Y) Y<|sG 6 Y Y Y (dF h3) Y (dMv Y) Y<|M4 (fun h4=>?_) (fun h4=>?_)
   ·refine sG 9 Y Y Y (dT h4) Y (dMv Y) Y<|sG 9 Y Y Y (dT h4) Y (dLe Y Y) Y<|sG 6 Y Y Y (dF h3) Y (L1 Y (dT h4) Y) Y<|sQ (V0 Y (dF h3) Y) Y<|sM Y Y<|M4 (fun h5=>?_) (fun h5=>?_)
    ·refine sU 14 Y Y Y (dT h5) Y Y<|sU 14 Y Y Y (dT h5) Y Y<|sQ (L1 Y (dT h5) Y) Y<|sA Y Y<|j0<|Q1 [] Try.func74 Try.results74 (rT Y) ⟨Y,Y⟩
    ·refine sG 14 Y Y Y (dF h5) Y (dMv Y) Y<|sG 14 Y Y Y (dF h5) Y (dEq Y Y) Y<|sQ (V0 Y (dF h5) Y) Y<|sA Y Y<|j0<|Q1 [] Try.func74 Try.results74 (rT Y) ⟨Y,Y⟩
   ·refine sU 9 Y Y Y (dF h4) Y Y<|sU 9 Y Y Y (dF h4) Y Y<|sG 6 Y Y Y (dF h3) Y (V0 Y (dF h4) Y) Y<|sQ (V0 Y (dF h3) Y) Y<|sM Y Y<|sG 14 Y Y Y Y Y (dMv Y) Y<|sG 14 Y Y Y Y Y (dEq Y Y) Y<|sQ (V0 Y Y Y) Y<|sA Y Y<|j0<|Q1 [] Try.func74 Try.results74 (rT Y) ⟨Y,Y⟩
 ·refine sU 2 Y Y Y (dF h2) Y Y<|sU 2 Y Y Y (dF h2) Y Y<|sQ (V0 Y (dF h2) Y) Y<|sM Y Y<|sG 6 Y Y Y Y Y (dMv Y) Y<|sG 6 Y Y Y Y Y (dGe Y Y) Y<|sG 6 Y Y Y Y Y (dMv Y) Y<|M4 (fun h6=>?_) (fun h6=>?_)
  ·refine sG 9 Y Y Y (dT h6) Y (dMv Y) Y<|sG 9 Y Y Y (dT h6) Y (dLe Y Y) Y<|sG 6 Y Y Y Y Y (L1 Y (dT h6) Y) Y<|sQ (V0 Y Y Y) Y<|sM Y Y<|M4 (fun h7=>?_) (fun h7=>?_)
   ·refine sU 14 Y Y Y (dT h7) Y Y<|sU 14 Y Y Y (dT h7) Y Y<|sQ (L1 Y (dT h7) Y) Y<|sA Y Y<|j0<|Q1 [] Try.func74 Try.results74 (rT Y) ⟨Y,Y⟩
   ·refine sG 14 Y Y Y (dF h7) Y (dMv Y) Y<|sG 14 Y Y Y (dF h7) Y (dEq Y Y) Y<|sQ (V0 Y (dF h7) Y) Y<|sA Y Y<|j0<|Q1 [] Try.func74 Try.results74 (rT Y) ⟨Y,Y⟩
  ·refine sU 9 Y Y Y (dF h6) Y Y<|sU 9 Y Y Y (dF h6) Y Y<|sG 6 Y Y Y Y Y (V0 Y (dF h6) Y) Y<|sQ (V0 Y Y Y) Y<|sM Y Y<|sG 14 Y Y Y Y Y (dMv Y) Y<|sG 14 Y Y Y Y Y (dEq Y Y) Y<|sQ (V0 Y Y Y) Y<|sA Y Y<|j0<|Q1 [] Try.func74 Try.results74 (rT Y) ⟨Y,Y⟩
def G9 (K:Nat) (c1:Int):Option Bool:=(L7 K c1).bind fun r2=>if r2=true then some true else if 48≤c1 then some (decide (c1≤57)) else some false
theorem La (K:Nat) (c1:Int):Pure Try.prog 75 [Ai .u8 c1] (G9 K c1) (fun r=>Ab r):=by
 refine spec_of' Try.func75 rfl Try.ntmps75 (le_ rfl) ?_
 refine sSR Y<|sA Y Y<|sES Y<|sM Y Y<|L4 fun r2 e3=>sQ (j5 ent74 (k9 K _) e3 (.s Y .nil)) Y<|sM Y Y<|M4 (fun h4=>?_) (fun h4=>?_)
 ·refine sU 2 Y Y Y h4 Y Y<|sU 2 Y Y Y h4 Y Y<|sU 2 Y Y Y h4 Y Y<|sQv (j:=5) Y Y Y Y Y<|sQv (j:=5) Y Y Y Y Y<|sU 2 Y Y Y h4 Y Y<|sQ (L1 Y h4 Y) Y<|sA Y Y<|j0<|Q1 [] Try.func75 Try.results75 (rT Y) ⟨Y,Y⟩
 ·refine sG 2 Y Y Y (eF h4) Y (dMv Y) Y<|sG 2 Y Y Y (eF h4) Y (dGe Y Y) Y<|sG 2 Y Y Y (eF h4) Y (dMv Y) Y<|M4 (fun h5=>?_) (fun h5=>?_)
  ·refine sG 5 Y Y Y (dT h5) Y (dMv Y) Y<|sG 5 Y Y Y (dT h5) Y (dLe Y Y) Y<|sG 2 Y Y Y (eF h4) Y (L1 Y (dT h5) Y) Y<|sQ (V0 Y (eF h4) Y) Y<|sA Y Y<|j0<|Q1 [] Try.func75 Try.results75 (rT Y) ⟨Y,Y⟩
  ·refine sU 5 Y Y Y (dF h5) Y Y<|sU 5 Y Y Y (dF h5) Y Y<|sG 2 Y Y Y (eF h4) Y (V0 Y (dF h5) Y) Y<|sQ (V0 Y (eF h4) Y) Y<|sA Y Y<|j0<|Q1 [] Try.func75 Try.results75 (rT Y) ⟨Y,Y⟩
def M6.l0 (K:Nat) (s1:ByteArray):Nat→Int→Option (Int ⊕ Bool)
 | 0,_=>none
 | m+1,t9=>if t9<(s1.size:Int) then if 0≤t9 then (G9 K (bt s1 t9)).bind fun r12=>if (!r12)=true then some (.inr false) else M6.l0 K s1 m (IntKind.wrap .i64 (t9+1)) else none else some (.inl t9)
def M6 (K:Nat) (s1:ByteArray):Option Bool:=if s1=(⟨#[]⟩:ByteArray) then some false else if 32<(s1.size:Int) then some false else if s1=(⟨#[115,116,97,114,116]⟩:ByteArray) then some false else if 0<(s1.size:Int) then (L7 K (bt s1 0)).bind fun r6=>if (!r6)=true then some false else brk (M6.l0 K s1 K 0) fun t9=>some true else none
theorem Ma (K:Nat) (s1:ByteArray):Pure Try.prog 66 [.lit (.string s1)] (M6 K s1) (fun r=>Ab r):=by
 refine spec_of' Try.func66 rfl Try.ntmps66 (le_ rfl) ?_
 refine sSR Y<|sA Y Y<|j0<|P2<|sSR Y<|sM Y Y<|sQ (ke Y Y) Y<|sM Y Y<|M4 (fun h2=>?_) (fun h2=>?_)
 ·refine sU 2 Y Y Y (dT h2) Y Y<|sU 2 Y Y Y (dT h2) Y Y<|sU 2 Y Y Y (dT h2) Y Y<|sQ (L1 Y (dT h2) Y) Y<|sM Y Y<|sU 7 Y Y Y Y Y Y<|sU 7 Y Y Y Y Y Y<|sQ (L1 Y Y Y) Y<|sM Y Y<|sU 11 Y Y Y Y Y Y<|sU 11 Y Y Y Y Y Y<|sU 11 Y Y Y Y Y Y<|sU 11 Y Y Y Y Y Y<|sQ (L1 Y Y Y) Y<|j0<|V5 Y Y<|sSR Y<|sA Y Y<|j0<|Q1 [] Try.func66 Try.results66 (rT Y) ⟨Y,Y⟩
 ·refine sG 2 Y Y Y (dF h2) Y (dMv Y) Y<|sG 2 Y Y Y (dF h2) Y (tc Try.underlying9 Y) Y<|sG 2 Y Y Y (dF h2) Y (dGt Y Y) Y<|sQ (V0 Y (dF h2) Y) Y<|sM Y Y<|M4 (fun h3=>?_) (fun h3=>?_)
  ·refine sU 7 Y Y Y (dT h3) Y Y<|sU 7 Y Y Y (dT h3) Y Y<|sQ (L1 Y (dT h3) Y) Y<|sM Y Y<|sU 11 Y Y Y Y Y Y<|sU 11 Y Y Y Y Y Y<|sU 11 Y Y Y Y Y Y<|sU 11 Y Y Y Y Y Y<|sQ (L1 Y Y Y) Y<|j0<|V5 Y Y<|sSR Y<|sA Y Y<|j0<|Q1 [] Try.func66 Try.results66 (rT Y) ⟨Y,Y⟩
  ·refine sG 7 Y Y Y (dF h3) Y (dMv Y) Y<|sG 7 Y Y Y (dF h3) Y (ke Y Y) Y<|sQ (V0 Y (dF h3) Y) Y<|sM Y Y<|M4 (fun h4=>?_) (fun h4=>?_)
   ·refine sU 11 Y Y Y (dT h4) Y Y<|sU 11 Y Y Y (dT h4) Y Y<|sU 11 Y Y Y (dT h4) Y Y<|sU 11 Y Y Y (dT h4) Y Y<|sQ (L1 Y (dT h4) Y) Y<|j0<|V5 Y Y<|sSR Y<|sA Y Y<|j0<|Q1 [] Try.func66 Try.results66 (rT Y) ⟨Y,Y⟩
   ·refine sG 11 Y Y Y (dF h4) Y (dMv Y) Y<|c7 fun h5=>sG 11 Y Y Y (dF h4) Y (ge Try.underlying9 Y Y (by decide) h5) Y<|L4 fun r6 e7=>sG 11 Y Y Y (dF h4) Y (j5 ent74 (k9 K _) e7 (.s Y .nil)) Y<|sG 11 Y Y Y (dF h4) Y (V8 Y) Y<|sQ (V0 Y (dF h4) Y) Y<|j0<|W6 Y (fun h8=>?_) (fun h8=>?_)
    ·refine sSR Y<|sA Y Y<|j0<|Q1 [] Try.func66 Try.results66 (rT Y) ⟨Y,Y⟩
    ·refine f3<|P2<|sSR Y<|sM Y Y<|sQ (tc Try.underlying9 Y) Y<|sM Y Y<|j0<|qa (M6.l0 K s1) (fun (t9:Int) (_:Unit)=>([(0,.lit (.string s1)),(22,Ai .i64 (s1.size:Int)),(23,Ai .i64 t9)]:Fr)) (fun (t9:Int) (_:Unit)=>([]:List Res)) () (fun _=>Y) [] ⟨Y,Y,Y,trivial⟩ Y ?_ ?_
     ·rintro t9 _
      refine sSR Y<|sA Y Y<|j0<|Q1 [] Try.func66 Try.results66 (rT Y) ⟨Y,Y⟩
     ·rintro m t9 _ again0 out0
      refine sSR Y<|sQ (dLt Y Y) Y<|j0<|P2<|b5 Y (fun h10=>?_) (fun h10=>?_)
      ·refine f3<|P2<|m8<|sSR Y<|sM Y Y<|sA Y Y<|sES Y<|sM Y Y<|sM Y Y<|c7 fun h11=>sQ (ge Try.underlying9 Y Y h11 h10) Y<|L4 fun r12 e13=>sQ (j5 ent75 (La K _) e13 (.s Y .nil)) Y<|sQ (V8 Y) Y<|j0<|W6 Y (fun h14=>?_) (fun h14=>?_)
       ·refine sSR Y<|sA Y Y<|j0<|q9<|Q1 [] Try.func66 Try.results66 (rT Y) ⟨Y,Y⟩
       ·refine f3<|W4<|j6 Y<|sQ (P7 Y Y) Y<|sM Y Y<|j0<|m5 (again0 (IntKind.wrap .i64 (t9+1)) ()) [] ⟨Y,Y,Y,trivial⟩ Y
      ·refine g7 Y<|m5 (out0 t9 ()) [] ⟨Y,Y,Y,trivial⟩ Y
def W5.l0 (K:Nat) (ns1:(List ByteArray)):Nat→((List (ByteArray×Bool))×Int)→Option (((List (ByteArray×Bool))×Int) ⊕ Bool)
 | 0,_=>none
 | m+1,(c5,t6)=>if t6<(ns1.length:Int) then if 0≤t6 then (M6 K (rd ns1 t6)).bind fun r9=>if (!r9)=true then some (.inr false) else if (mgetD false c5 (rd ns1 t6))=true then some (.inr false) else W5.l0 K ns1 m (mput c5 (rd ns1 t6) true,IntKind.wrap .i64 (t6+1)) else none else some (.inl (c5,t6))
def W5 (K:Nat) (ns1:(List ByteArray)):Option Bool:=if (ns1.length:Int)<1 then some false else if 64<(ns1.length:Int) then some false else brk (W5.l0 K ns1 K (([]:(List (ByteArray×Bool))),0)) fun (c5,t6)=>some true
theorem ca (K:Nat) (ns1:(List ByteArray)):Pure Try.prog 49 [.fsl cS ns1] (W5 K ns1) (fun r=>Ab r):=by
 refine spec_of' Try.func49 rfl Try.ntmps49 (le_ rfl) ?_
 refine sSR Y<|sA Y Y<|j0<|P2<|sSR Y<|sM Y Y<|sQ (P6 Try.underlying22 Y) Y<|sQ (dLt Y Y) Y<|sM Y Y<|M4 (fun h2=>?_) (fun h2=>?_)
 ·refine sU 3 Y Y Y (dT h2) Y Y<|sU 3 Y Y Y (dT h2) Y Y<|sU 3 Y Y Y (dT h2) Y Y<|sQ (L1 Y (dT h2) Y) Y<|j0<|V5 Y Y<|sSR Y<|sA Y Y<|j0<|Q1 [] Try.func49 Try.results49 (rT Y) ⟨Y,Y⟩
 ·refine sG 3 Y Y Y (dF h2) Y (dMv Y) Y<|sG 3 Y Y Y (dF h2) Y (P6 Try.underlying22 Y) Y<|sG 3 Y Y Y (dF h2) Y (dGt Y Y) Y<|sQ (V0 Y (dF h2) Y) Y<|j0<|b5 Y (fun h3=>?_) (fun h3=>?_)
  ·refine sSR Y<|sA Y Y<|j0<|Q1 [] Try.func49 Try.results49 (rT Y) ⟨Y,Y⟩
  ·refine f3<|sSR Y<|M8 (ek:=(fun x:ByteArray=>Value.string x)) (ev:=(fun x:Bool=>Value.bool x)) Y fun b4=>sA Y Y<|j0<|P2<|sSR Y<|sM Y Y<|sQ (P6 Try.underlying22 Y) Y<|sM Y Y<|j0<|qa (W5.l0 K ns1) (fun ((c5,t6):((List (ByteArray×Bool))×Int)) (_:Unit)=>([(3,.lit (.map (some b4))),(15,.fsl cS ns1),(16,Ai .i64 (ns1.length:Int)),(17,Ai .i64 t6)]:Fr)) (fun ((c5,t6):((List (ByteArray×Bool))×Int)) (_:Unit)=>([.mp (fun x:ByteArray=>Value.string x) (fun x:Bool=>Value.bool x) b4 c5]:List Res)) () (fun _=>Y) [] ⟨Y,Y,Y,Y,trivial⟩ Y ?_ ?_
   ·rintro ⟨c5,t6⟩ _
    refine sSR Y<|sA Y Y<|j0<|Q1 [0] Try.func49 Try.results49 (rT Y) ⟨Y,Y⟩
   ·rintro m ⟨c5,t6⟩ _ again0 out0
    refine sSR Y<|sQ (dLt Y Y) Y<|j0<|P2<|b5 Y (fun h7=>?_) (fun h7=>?_)
    ·refine f3<|P2<|m8<|sSR Y<|c7 fun h8=>sQ (dIx Try.underlying22 z9 Y Y h8 h7) Y<|sQ (dLd g9 Y Y) Y<|sA Y Y<|j0<|P2<|sSR Y<|sM Y Y<|L4 fun r9 e10=>sQ (j5 ent66 (Ma K _) e10 (.s Y .nil)) Y<|sQ (V8 Y) Y<|sM Y Y<|M4 (fun h11=>?_) (fun h11=>?_)
     ·refine sU 3 Y Y Y h11 Y Y<|sU 3 Y Y Y h11 Y Y<|sU 3 Y Y Y h11 Y Y<|sQ (L1 Y h11 Y) Y<|j0<|V5 Y Y<|sSR Y<|sA Y Y<|j0<|q9<|Q1 [0] Try.func49 Try.results49 (rT Y) ⟨Y,Y⟩
     ·refine sG 3 Y Y Y (eF h11) Y (dMv Y) Y<|sG 3 Y Y Y (eF h11) Y (dMv Y) Y<|sG 3 Y Y Y (eF h11) Y (mc (j:=0) (z:=false) (ev:=(fun x:Bool=>Value.bool x)) mk9 Try.underlying121 zv4 Y Y Y (fun _ _ _ h=>h)) Y<|sQ (V0 Y (eF h11) Y) Y<|j0<|W6 Y (fun h12=>?_) (fun h12=>?_)
      ·refine sSR Y<|sA Y Y<|j0<|q9<|Q1 [0] Try.func49 Try.results49 (rT Y) ⟨Y,Y⟩
      ·refine f3<|j6 Y<|sM Y Y<|sM Y Y<|Wb (j:=0) (v:=true) (ev:=(fun x:Bool=>Value.bool x)) mk9 Try.underlying121 Y Y Y (fun _ _ _ h=>h) Y<|j0<|W4<|j6 Y<|sQ (P7 Y Y) Y<|sM Y Y<|j0<|m5 (again0 (mput c5 (rd ns1 t6) true,IntKind.wrap .i64 (t6+1)) ()) [0] ⟨Y,Y,Y,Y,trivial⟩ Y
    ·refine g7 Y<|m5 (out0 (c5,t6) ()) [0] ⟨Y,Y,Y,Y,trivial⟩ Y
def M7 (K:Nat) (s1:Symbol) (names2:Int):Option Bool:=if s1.Name=(-1) then (if 0≤s1.Lo then if s1.Lo≤s1.Hi then some (decide (s1.Hi≤255)) else some false else some false).bind fun t4=>some t4 else if 0≤s1.Name then if s1.Name<names2 then if s1.Lo=0 then some (decide (s1.Hi=0)) else some false else some false else some false
theorem ka (K:Nat) (s1:Symbol) (names2:Int):Pure Try.prog 67 [.agg (cSymbol.e s1),Ai .i64 names2] (M7 K s1 names2) (fun r=>Ab r):=by
 refine spec_of' Try.func67 rfl Try.ntmps67 (le_ rfl) ?_
 refine sSR Y<|sQ (W8 (az:=cSymbol.e s1) Y cAgg) Y<|sA Y Y<|j0<|P2<|sSR Y<|sQ (dFA fa51_0 Y) Y<|sQ (dLd g3 Y Y) Y<|sQ (dEq Y Y) Y<|j0<|b5 Y (fun h3=>?_) (fun h3=>?_)
 ·refine P2<|J9 (fun (t4:Bool) (_:Unit)=>([(4,Ab t4)]:Fr)) (fun (t4:Bool) (_:Unit)=>([]:List Res)) ?_ ?_
  ·rintro t4 _
   refine Q1 [] Try.func67 Try.results67 (rT Y) ⟨Y,Y⟩
  ·intro join4
   refine j6 Y<|sQ (dFA fa51_1 Y) Y<|sQ (dLd g3 Y Y) Y<|sQ (dGe Y Y) Y<|sM Y Y<|M4 (fun h6=>?_) (fun h6=>?_)
   ·refine sG 3 Y Y Y (dT h6) Y (dFA fa51_1 Y) Y<|sG 3 Y Y Y (dT h6) Y (dLd g3 Y Y) Y<|sG 3 Y Y Y (dT h6) Y (dFA fa51_2 Y) Y<|sG 3 Y Y Y (dT h6) Y (dLd g3 Y Y) Y<|sG 3 Y Y Y (dT h6) Y (dLe Y Y) Y<|sQ (L1 Y (dT h6) Y) Y<|sM Y Y<|M4 (fun h7=>?_) (fun h7=>?_)
    ·refine sG 10 Y Y Y (dT h7) Y (dFA fa51_2 Y) Y<|sG 10 Y Y Y (dT h7) Y (dLd g3 Y Y) Y<|sG 10 Y Y Y (dT h7) Y (dLe Y Y) Y<|sQ (L1 Y (dT h7) Y) Y<|sA Y Y<|j0<|m5 (join4 (decide (s1.Hi≤255)) ()) [] ⟨Y,trivial⟩ Y
    ·refine sU 10 Y Y Y (dF h7) Y Y<|sU 10 Y Y Y (dF h7) Y Y<|sU 10 Y Y Y (dF h7) Y Y<|sQ (V0 Y (dF h7) Y) Y<|sA Y Y<|j0<|m5 (join4 false ()) [] ⟨Y,trivial⟩ Y
   ·refine sU 3 Y Y Y (dF h6) Y Y<|sU 3 Y Y Y (dF h6) Y Y<|sU 3 Y Y Y (dF h6) Y Y<|sU 3 Y Y Y (dF h6) Y Y<|sU 3 Y Y Y (dF h6) Y Y<|sQ (V0 Y (dF h6) Y) Y<|sM Y Y<|sU 10 Y Y Y Y Y Y<|sU 10 Y Y Y Y Y Y<|sU 10 Y Y Y Y Y Y<|sQ (V0 Y Y Y) Y<|sA Y Y<|j0<|m5 (join4 false ()) [] ⟨Y,trivial⟩ Y
 ·refine f3<|sSR Y<|sQ (dFA fa51_0 Y) Y<|sQ (dLd g3 Y Y) Y<|sQ (dGe Y Y) Y<|sM Y Y<|M4 (fun h8=>?_) (fun h8=>?_)
  ·refine sG 3 Y Y Y (dT h8) Y (dFA fa51_0 Y) Y<|sG 3 Y Y Y (dT h8) Y (dLd g3 Y Y) Y<|sG 3 Y Y Y (dT h8) Y (dMv Y) Y<|sG 3 Y Y Y (dT h8) Y (dLt Y Y) Y<|sQ (L1 Y (dT h8) Y) Y<|sM Y Y<|M4 (fun h9=>?_) (fun h9=>?_)
   ·refine sG 9 Y Y Y (dT h9) Y (dFA fa51_1 Y) Y<|sG 9 Y Y Y (dT h9) Y (dLd g3 Y Y) Y<|sG 9 Y Y Y (dT h9) Y (dEq Y Y) Y<|sQ (L1 Y (dT h9) Y) Y<|sM Y Y<|M4 (fun h10=>?_) (fun h10=>?_)
    ·refine sG 14 Y Y Y (dT h10) Y (dFA fa51_2 Y) Y<|sG 14 Y Y Y (dT h10) Y (dLd g3 Y Y) Y<|sG 14 Y Y Y (dT h10) Y (dEq Y Y) Y<|sQ (L1 Y (dT h10) Y) Y<|sA Y Y<|j0<|Q1 [] Try.func67 Try.results67 (rT Y) ⟨Y,Y⟩
    ·refine sU 14 Y Y Y (dF h10) Y Y<|sU 14 Y Y Y (dF h10) Y Y<|sU 14 Y Y Y (dF h10) Y Y<|sQ (V0 Y (dF h10) Y) Y<|sA Y Y<|j0<|Q1 [] Try.func67 Try.results67 (rT Y) ⟨Y,Y⟩
   ·refine sU 9 Y Y Y (dF h9) Y Y<|sU 9 Y Y Y (dF h9) Y Y<|sU 9 Y Y Y (dF h9) Y Y<|sQ (V0 Y (dF h9) Y) Y<|sM Y Y<|sU 14 Y Y Y Y Y Y<|sU 14 Y Y Y Y Y Y<|sU 14 Y Y Y Y Y Y<|sQ (V0 Y Y Y) Y<|sA Y Y<|j0<|Q1 [] Try.func67 Try.results67 (rT Y) ⟨Y,Y⟩
  ·refine sU 3 Y Y Y (dF h8) Y Y<|sU 3 Y Y Y (dF h8) Y Y<|sU 3 Y Y Y (dF h8) Y Y<|sU 3 Y Y Y (dF h8) Y Y<|sQ (V0 Y (dF h8) Y) Y<|sM Y Y<|sU 9 Y Y Y Y Y Y<|sU 9 Y Y Y Y Y Y<|sU 9 Y Y Y Y Y Y<|sQ (V0 Y Y Y) Y<|sM Y Y<|sU 14 Y Y Y Y Y Y<|sU 14 Y Y Y Y Y Y<|sU 14 Y Y Y Y Y Y<|sQ (V0 Y Y Y) Y<|sA Y Y<|j0<|Q1 [] Try.func67 Try.results67 (rT Y) ⟨Y,Y⟩
def y4.l1 (K:Nat) (r1:Rule) (names2:Int) (t6:Int):Nat→Int→Option (Int ⊕ ((Int×Int) ⊕ (Int×Bool)))
 | 0,_=>none
 | m+1,t11=>if t11<(((rd r1.Conj t6).Seq).length:Int) then if 0≤t11 then (M7 K (⟨(rd ((rd r1.Conj t6).Seq) t11).Name,(rd ((rd r1.Conj t6).Seq) t11).Lo,(rd ((rd r1.Conj t6).Seq) t11).Hi⟩:Symbol) names2).bind fun r15=>if (!r15)=true then some (.inr (.inr (0,false))) else y4.l1 K r1 names2 t6 m (IntKind.wrap .i64 (t11+1)) else none else some (.inl t11)
def y4.l0 (K:Nat) (r1:Rule) (names2:Int):Nat→(Int×Int)→Option ((Int×Int) ⊕ (Int×Bool))
 | 0,_=>none
 | m+1,(n5,t6)=>if t6<(r1.Conj.length:Int) then if 0≤t6 then if 64<(((rd r1.Conj t6).Seq).length:Int) then some (.inr (0,false)) else brk (y4.l1 K r1 names2 t6 K 0) fun t11=>y4.l0 K r1 names2 m (IntKind.wrap .i64 (n5+(((rd r1.Conj t6).Seq).length:Int)),IntKind.wrap .i64 (t6+1)) else none else some (.inl (n5,t6))
def y4 (K:Nat) (r1:Rule) (names2:Int):Option (Int×Bool):=if (r1.Conj.length:Int)<1 then some (0,false) else if 8<(r1.Conj.length:Int) then some (0,false) else brk (y4.l0 K r1 names2 K (0,0)) fun (n5,t6)=>some (n5,true)
theorem ya (K:Nat) (r1:Rule) (names2:Int):Pure Try.prog 50 [.fptr (cRule.e r1),Ai .i64 names2] (y4 K r1 names2) (fun r=>.tup [Ai .i64 r.1,Ab r.2]):=by
 refine spec_of' Try.func50 rfl Try.ntmps50 (le_ rfl) ?_
 refine sSR Y<|sA Y Y<|sA Y Y<|j0<|P2<|sSR Y<|sM Y Y<|sQ (dNc ptF Y) Y<|sQ (dFA fa61_1 Y) Y<|sQ (dLd g59 Y Y) Y<|sQ (P6 Try.underlying59 Y) Y<|sQ (dLt Y Y) Y<|sM Y Y<|M4 (fun h3=>?_) (fun h3=>?_)
 ·refine sU 6 Y Y Y (dT h3) Y Y<|sU 6 Y Y Y (dT h3) Y Y<|sU 6 Y Y Y (dT h3) Y Y<|sU 6 Y Y Y (dT h3) Y Y<|sU 6 Y Y Y (dT h3) Y Y<|sU 6 Y Y Y (dT h3) Y Y<|sQ (L1 Y (dT h3) Y) Y<|j0<|V5 Y Y<|sSR Y<|sA Y Y<|sA Y Y<|j0<|c8 [] Try.func50 Try.results50 (rT Y) (rT Y) ⟨Y,Y⟩
 ·refine sG 6 Y Y Y (dF h3) Y (dMv Y) Y<|sG 6 Y Y Y (dF h3) Y (dNc ptF Y) Y<|sG 6 Y Y Y (dF h3) Y (dFA fa61_1 Y) Y<|sG 6 Y Y Y (dF h3) Y (dLd g59 Y Y) Y<|sG 6 Y Y Y (dF h3) Y (P6 Try.underlying59 Y) Y<|sG 6 Y Y Y (dF h3) Y (dGt Y Y) Y<|sQ (V0 Y (dF h3) Y) Y<|j0<|b5 Y (fun h4=>?_) (fun h4=>?_)
  ·refine sSR Y<|sA Y Y<|sA Y Y<|j0<|c8 [] Try.func50 Try.results50 (rT Y) (rT Y) ⟨Y,Y⟩
  ·refine f3<|sSR Y<|sA Y Y<|j0<|P2<|sSR Y<|sM Y Y<|sQ (dNc ptF Y) Y<|sQ (dFA fa61_1 Y) Y<|sQ (dLd g59 Y Y) Y<|sQ (P6 Try.underlying59 Y) Y<|sM Y Y<|j0<|qa (y4.l0 K r1 names2) (fun ((n5,t6):(Int×Int)) (_:Unit)=>([(1,Ai .i64 names2),(6,Ai .i64 n5),(28,.fsl cConjunct r1.Conj),(29,Ai .i64 (r1.Conj.length:Int)),(30,Ai .i64 t6)]:Fr)) (fun ((n5,t6):(Int×Int)) (_:Unit)=>([]:List Res)) () (fun _=>Y) [] ⟨Y,Y,Y,Y,Y,trivial⟩ Y ?_ ?_
   ·rintro ⟨n5,t6⟩ _
    refine sSR Y<|sM Y Y<|sA Y Y<|sA Y Y<|j0<|c8 [] Try.func50 Try.results50 (rT Y) (rT Y) ⟨Y,Y⟩
   ·rintro m ⟨n5,t6⟩ _ again0 out0
    refine sSR Y<|sQ (dLt Y Y) Y<|j0<|P2<|b5 Y (fun h7=>?_) (fun h7=>?_)
    ·refine f3<|P2<|m8<|sSR Y<|c7 fun h8=>sQ (dIx Try.underlying59 z58 Y Y h8 h7) Y<|sQ (J8 g58 z58 Y (le_ Y)) Y<|f7 (az:=[Ab false,.lit (.slice none 0 0)]) al58 (fun _ _=>.cons Y (.cons Y .nil)) Y fun b9=>k8 (j:=0) z58 Y Y Y cAgg ((cConjunct).one _) Y (le_ Y)<|j0<|P2<|sSR Y<|sQ (Q5 fa58_1 Y) Y<|sQ (k7 (j:=0) g56 Y Y Y) Y<|sQ (P6 Try.underlying56 Y) Y<|sQ (dGt Y Y) Y<|j0<|b5 Y (fun h10=>?_) (fun h10=>?_)
     ·refine sSR Y<|sA Y Y<|sA Y Y<|j0<|q9<|c8 [0] Try.func50 Try.results50 (rT Y) (rT Y) ⟨Y,Y⟩
     ·refine f3<|P2<|sSR Y<|sQ (Q5 fa58_1 Y) Y<|sQ (k7 (j:=0) g56 Y Y Y) Y<|sQ (P6 Try.underlying56 Y) Y<|sM Y Y<|j0<|qa (y4.l1 K r1 names2 t6) (fun (t11:Int) (_:Unit)=>([(1,Ai .i64 names2),(6,Ai .i64 n5),(8,.lit (.pointer (some ⟨b9,0,none⟩))),(28,.fsl cConjunct r1.Conj),(29,Ai .i64 (r1.Conj.length:Int)),(30,Ai .i64 t6),(39,.fsl cSymbol ((rd r1.Conj t6).Seq)),(40,Ai .i64 (((rd r1.Conj t6).Seq).length:Int)),(41,Ai .i64 t11)]:Fr)) (fun (t11:Int) (_:Unit)=>([.box b9 [Ab ((rd r1.Conj t6).Neg),.fsl cSymbol ((rd r1.Conj t6).Seq)]]:List Res)) () (fun _=>Y) [] ⟨Y,Y,Y,Y,Y,Y,Y,Y,Y,trivial⟩ Y ?_ ?_
      ·rintro t11 _
       refine j6 Y<|sM Y Y<|sQ (Q5 fa58_1 Y) Y<|sQ (k7 (j:=0) g56 Y Y Y) Y<|sQ (P6 Try.underlying56 Y) Y<|sQ (P7 Y Y) Y<|sA Y Y<|j0<|W4<|j6 Y<|sQ (P7 Y Y) Y<|sM Y Y<|j0<|m5 (again0 (IntKind.wrap .i64 (n5+(((rd r1.Conj t6).Seq).length:Int)),IntKind.wrap .i64 (t6+1)) ()) [] ⟨Y,Y,Y,Y,Y,trivial⟩ Y
      ·rintro m t11 _ again1 out1
       refine sSR Y<|sQ (dLt Y Y) Y<|j0<|P2<|b5 Y (fun h12=>?_) (fun h12=>?_)
       ·refine f3<|P2<|m8<|sSR Y<|c7 fun h13=>sQ (dIx Try.underlying56 z51 Y Y h13 h12) Y<|sQ (J8 g51 z51 Y (le_ Y)) Y<|f7 (az:=[Ai .i64 (0:Int),Ai .i64 (0:Int),Ai .i64 (0:Int)]) al51 (fun _ _=>.cons Y (.cons Y (.cons Y .nil))) Y fun b14=>k8 (j:=0) z51 Y Y Y cAgg ((cSymbol).one _) Y (le_ Y)<|sES Y<|sQ (j7 (j:=0) g51 z51 Y Y (le_ Y)) Y<|sM Y Y<|L4 fun r15 e16=>sQ (j5 ent67 (ka K _ _) e16 (.s Y<|.s Y .nil)) Y<|sQ (V8 Y) Y<|j0<|W6 Y (fun h17=>?_) (fun h17=>?_)
        ·refine sSR Y<|sA Y Y<|sA Y Y<|j0<|q9<|q9<|c8 [1,0] Try.func50 Try.results50 (rT Y) (rT Y) ⟨Y,Y⟩
        ·refine f3<|W4<|j6 Y<|sQ (P7 Y Y) Y<|sM Y Y<|j0<|m5 (again1 (IntKind.wrap .i64 (t11+1)) ()) [1] ⟨Y,Y,Y,Y,Y,Y,Y,Y,Y,trivial⟩ Y
       ·refine g7 Y<|m5 (out1 t11 ()) [0] ⟨Y,Y,Y,Y,Y,Y,Y,Y,Y,trivial⟩ Y
    ·refine g7 Y<|m5 (out0 (n5,t6) ()) [] ⟨Y,Y,Y,Y,Y,trivial⟩ Y
def J5.l0 (K:Nat) (g1:Grammar):Nat→(Int×Int×Int)→Option ((Int×Int×Int) ⊕ Bool)
 | 0,_=>none
 | m+1,(head9,all10,t11)=>if t11<(g1.Rules.length:Int) then if 0≤t11 then (y4 K (rd g1.Rules t11) (g1.Names.length:Int)).bind fun r14=>if (!r14.2)=true then some (.inr false) else if ((rd g1.Rules t11).Head)<head9 then some (.inr false) else if (IntKind.wrap .i64 (head9+1))<((rd g1.Rules t11).Head) then some (.inr false) else if 1024<(IntKind.wrap .i64 (all10+r14.1)) then some (.inr false) else J5.l0 K g1 m ((rd g1.Rules t11).Head,IntKind.wrap .i64 (all10+r14.1),IntKind.wrap .i64 (t11+1)) else none else some (.inl (head9,all10,t11))
def J5 (K:Nat) (g1:Grammar):Option Bool:=(W5 K g1.Names).bind fun r2=>if (!r2)=true then some false else if g1.Start<0 then some false else if (g1.Names.length:Int)≤g1.Start then some false else if (g1.Rules.length:Int)<1 then some false else if 256<(g1.Rules.length:Int) then some false else brk (J5.l0 K g1 K ((-1),0,0)) fun (head9,all10,t11)=>if 0<(g1.Rules.length:Int) then if ((rd g1.Rules 0).Head)=0 then some (decide (head9=(IntKind.wrap .i64 ((g1.Names.length:Int)-1)))) else some false else none
theorem V9 (K:Nat) (g1:Grammar):Pure Try.prog 27 [.agg (cGrammar.e g1)] (J5 K g1) (fun r=>Ab r):=by
 refine spec_of' Try.func27 rfl Try.ntmps27 (le_ rfl) ?_
 refine sSR Y<|sQ (W8 (az:=cGrammar.e g1) Y cAgg) Y<|sA Y Y<|j0<|P2<|sSR Y<|sQ (dFA fa25_1 Y) Y<|sQ (dLd g22 Y Y) Y<|L4 fun r2 e3=>sQ (j5 ent49 (ca K _) e3 (.s Y .nil)) Y<|sQ (V8 Y) Y<|sM Y Y<|M4 (fun h4=>?_) (fun h4=>?_)
 ·refine sU 4 Y Y Y h4 Y Y<|sU 4 Y Y Y h4 Y Y<|sU 4 Y Y Y h4 Y Y<|sQ (L1 Y h4 Y) Y<|sM Y Y<|sU 9 Y Y Y Y Y Y<|sU 9 Y Y Y Y Y Y<|sU 9 Y Y Y Y Y Y<|sU 9 Y Y Y Y Y Y<|sU 9 Y Y Y Y Y Y<|sU 9 Y Y Y Y Y Y<|sQ (L1 Y Y Y) Y<|sM Y Y<|sU 17 Y Y Y Y Y Y<|sU 17 Y Y Y Y Y Y<|sU 17 Y Y Y Y Y Y<|sU 17 Y Y Y Y Y Y<|sQ (L1 Y Y Y) Y<|sM Y Y<|sU 23 Y Y Y Y Y Y<|sU 23 Y Y Y Y Y Y<|sU 23 Y Y Y Y Y Y<|sU 23 Y Y Y Y Y Y<|sQ (L1 Y Y Y) Y<|j0<|V5 Y Y<|sSR Y<|sA Y Y<|j0<|Q1 [] Try.func27 Try.results27 (rT Y) ⟨Y,Y⟩
 ·refine sG 4 Y Y Y (eF h4) Y (dFA fa25_0 Y) Y<|sG 4 Y Y Y (eF h4) Y (dLd g3 Y Y) Y<|sG 4 Y Y Y (eF h4) Y (dLt Y Y) Y<|sQ (V0 Y (eF h4) Y) Y<|sM Y Y<|M4 (fun h5=>?_) (fun h5=>?_)
  ·refine sU 9 Y Y Y (dT h5) Y Y<|sU 9 Y Y Y (dT h5) Y Y<|sU 9 Y Y Y (dT h5) Y Y<|sU 9 Y Y Y (dT h5) Y Y<|sU 9 Y Y Y (dT h5) Y Y<|sU 9 Y Y Y (dT h5) Y Y<|sQ (L1 Y (dT h5) Y) Y<|sM Y Y<|sU 17 Y Y Y Y Y Y<|sU 17 Y Y Y Y Y Y<|sU 17 Y Y Y Y Y Y<|sU 17 Y Y Y Y Y Y<|sQ (L1 Y Y Y) Y<|sM Y Y<|sU 23 Y Y Y Y Y Y<|sU 23 Y Y Y Y Y Y<|sU 23 Y Y Y Y Y Y<|sU 23 Y Y Y Y Y Y<|sQ (L1 Y Y Y) Y<|j0<|V5 Y Y<|sSR Y<|sA Y Y<|j0<|Q1 [] Try.func27 Try.results27 (rT Y) ⟨Y,Y⟩
  ·refine sG 9 Y Y Y (dF h5) Y (dFA fa25_0 Y) Y<|sG 9 Y Y Y (dF h5) Y (dLd g3 Y Y) Y<|sG 9 Y Y Y (dF h5) Y (dFA fa25_1 Y) Y<|sG 9 Y Y Y (dF h5) Y (dLd g22 Y Y) Y<|sG 9 Y Y Y (dF h5) Y (P6 Try.underlying22 Y) Y<|sG 9 Y Y Y (dF h5) Y (dGe Y Y) Y<|sQ (V0 Y (dF h5) Y) Y<|sM Y Y<|M4 (fun h6=>?_) (fun h6=>?_)
   ·refine sU 17 Y Y Y (dT h6) Y Y<|sU 17 Y Y Y (dT h6) Y Y<|sU 17 Y Y Y (dT h6) Y Y<|sU 17 Y Y Y (dT h6) Y Y<|sQ (L1 Y (dT h6) Y) Y<|sM Y Y<|sU 23 Y Y Y Y Y Y<|sU 23 Y Y Y Y Y Y<|sU 23 Y Y Y Y Y Y<|sU 23 Y Y Y Y Y Y<|sQ (L1 Y Y Y) Y<|j0<|V5 Y Y<|sSR Y<|sA Y Y<|j0<|Q1 [] Try.func27 Try.results27 (rT Y) ⟨Y,Y⟩
   ·refine sG 17 Y Y Y (dF h6) Y (dFA fa25_2 Y) Y<|sG 17 Y Y Y (dF h6) Y (dLd g23 Y Y) Y<|sG 17 Y Y Y (dF h6) Y (P6 Try.underlying23 Y) Y<|sG 17 Y Y Y (dF h6) Y (dLt Y Y) Y<|sQ (V0 Y (dF h6) Y) Y<|sM Y Y<|M4 (fun h7=>?_) (fun h7=>?_)
    ·refine sU 23 Y Y Y (dT h7) Y Y<|sU 23 Y Y Y (dT h7) Y Y<|sU 23 Y Y Y (dT h7) Y Y<|sU 23 Y Y Y (dT h7) Y Y<|sQ (L1 Y (dT h7) Y) Y<|j0<|V5 Y Y<|sSR Y<|sA Y Y<|j0<|Q1 [] Try.func27 Try.results27 (rT Y) ⟨Y,Y⟩
    ·refine sG 23 Y Y Y (dF h7) Y (dFA fa25_2 Y) Y<|sG 23 Y Y Y (dF h7) Y (dLd g23 Y Y) Y<|sG 23 Y Y Y (dF h7) Y (P6 Try.underlying23 Y) Y<|sG 23 Y Y Y (dF h7) Y (dGt Y Y) Y<|sQ (V0 Y (dF h7) Y) Y<|j0<|b5 Y (fun h8=>?_) (fun h8=>?_)
     ·refine sSR Y<|sA Y Y<|j0<|Q1 [] Try.func27 Try.results27 (rT Y) ⟨Y,Y⟩
     ·refine f3<|sSR Y<|sA Y Y<|sA Y Y<|j0<|P2<|sSR Y<|sQ (dFA fa25_2 Y) Y<|sQ (dLd g23 Y Y) Y<|sQ (P6 Try.underlying23 Y) Y<|sM Y Y<|j0<|qa (J5.l0 K g1) (fun ((head9,all10,t11):(Int×Int×Int)) (_:Unit)=>([(1,.fptr ((cGrammar.e g1))),(3,Ai .i64 head9),(4,Ai .i64 all10),(40,Ai .i64 (g1.Rules.length:Int)),(41,Ai .i64 t11)]:Fr)) (fun ((head9,all10,t11):(Int×Int×Int)) (_:Unit)=>([]:List Res)) () (fun _=>Y) [] ⟨Y,Y,Y,Y,Y,trivial⟩ Y ?_ ?_
      ·rintro ⟨head9,all10,t11⟩ _
       refine sSR Y<|sQ (dFA fa25_2 Y) Y<|sQ (dLd g23 Y Y) Y<|c7 fun h20=>sQ (dIx Try.underlying23 z61 Y Y (by decide) h20) Y<|sQ (dFA fa61_0 Y) Y<|sQ (dLd g3 Y Y) Y<|sQ (dEq Y Y) Y<|sM Y Y<|M4 (fun h21=>?_) (fun h21=>?_)
       ·refine sG 6 Y Y Y (dT h21) Y (dMv Y) Y<|sG 6 Y Y Y (dT h21) Y (dFA fa25_1 Y) Y<|sG 6 Y Y Y (dT h21) Y (dLd g22 Y Y) Y<|sG 6 Y Y Y (dT h21) Y (P6 Try.underlying22 Y) Y<|sG 6 Y Y Y (dT h21) Y (Vc Y Y) Y<|sG 6 Y Y Y (dT h21) Y (dEq Y Y) Y<|sQ (L1 Y (dT h21) Y) Y<|sA Y Y<|j0<|Q1 [] Try.func27 Try.results27 (rT Y) ⟨Y,Y⟩
       ·refine sU 6 Y Y Y (dF h21) Y Y<|sU 6 Y Y Y (dF h21) Y Y<|sU 6 Y Y Y (dF h21) Y Y<|sU 6 Y Y Y (dF h21) Y Y<|sU 6 Y Y Y (dF h21) Y Y<|sU 6 Y Y Y (dF h21) Y Y<|sQ (V0 Y (dF h21) Y) Y<|sA Y Y<|j0<|Q1 [] Try.func27 Try.results27 (rT Y) ⟨Y,Y⟩
      ·rintro m ⟨head9,all10,t11⟩ _ again0 out0
       refine sSR Y<|sQ (dLt Y Y) Y<|j0<|P2<|b5 Y (fun h12=>?_) (fun h12=>?_)
       ·refine f3<|P2<|m8<|sSR Y<|sM Y Y<|sA Y Y<|sES Y<|sQ (dFA fa25_2 Y) Y<|sQ (dLd g23 Y Y) Y<|sM Y Y<|c7 fun h13=>sQ (dIx Try.underlying23 z61 Y Y h13 h12) Y<|sA Y Y<|sES Y<|sM Y Y<|sQ (dFA fa25_1 Y) Y<|sQ (dLd g22 Y Y) Y<|sQ (P6 Try.underlying22 Y) Y<|L4 fun r14 e15=>sQ (j5 ent50 (ya K _ _) e15 (.s Y<|.s Y .nil)) Y<|sM Y Y<|sQ (dX Y Y) Y<|sQ (dX Y Y) Y<|sA Y Y<|sA Y Y<|j0<|P2<|sSR Y<|sM Y Y<|sQ (V8 Y) Y<|sM Y Y<|M4 (fun h16=>?_) (fun h16=>?_)
        ·refine sU 2 Y Y Y h16 Y Y<|sU 2 Y Y Y h16 Y Y<|sU 2 Y Y Y h16 Y Y<|sU 2 Y Y Y h16 Y Y<|sU 2 Y Y Y h16 Y Y<|sU 2 Y Y Y h16 Y Y<|sQ (L1 Y h16 Y) Y<|sM Y Y<|sU 10 Y Y Y Y Y Y<|sU 10 Y Y Y Y Y Y<|sU 10 Y Y Y Y Y Y<|sU 10 Y Y Y Y Y Y<|sU 10 Y Y Y Y Y Y<|sU 10 Y Y Y Y Y Y<|sU 10 Y Y Y Y Y Y<|sQ (L1 Y Y Y) Y<|j0<|V5 Y Y<|sSR Y<|sA Y Y<|j0<|q9<|Q1 [] Try.func27 Try.results27 (rT Y) ⟨Y,Y⟩
        ·refine sG 2 Y Y Y (eF h16) Y (dMv Y) Y<|sG 2 Y Y Y (eF h16) Y (dNc ptF Y) Y<|sG 2 Y Y Y (eF h16) Y (dFA fa61_0 Y) Y<|sG 2 Y Y Y (eF h16) Y (dLd g3 Y Y) Y<|sG 2 Y Y Y (eF h16) Y (dMv Y) Y<|sG 2 Y Y Y (eF h16) Y (dLt Y Y) Y<|sQ (V0 Y (eF h16) Y) Y<|sM Y Y<|M4 (fun h17=>?_) (fun h17=>?_)
         ·refine sU 10 Y Y Y (dT h17) Y Y<|sU 10 Y Y Y (dT h17) Y Y<|sU 10 Y Y Y (dT h17) Y Y<|sU 10 Y Y Y (dT h17) Y Y<|sU 10 Y Y Y (dT h17) Y Y<|sU 10 Y Y Y (dT h17) Y Y<|sU 10 Y Y Y (dT h17) Y Y<|sQ (L1 Y (dT h17) Y) Y<|j0<|V5 Y Y<|sSR Y<|sA Y Y<|j0<|q9<|Q1 [] Try.func27 Try.results27 (rT Y) ⟨Y,Y⟩
         ·refine sG 10 Y Y Y (dF h17) Y (dMv Y) Y<|sG 10 Y Y Y (dF h17) Y (dNc ptF Y) Y<|sG 10 Y Y Y (dF h17) Y (dFA fa61_0 Y) Y<|sG 10 Y Y Y (dF h17) Y (dLd g3 Y Y) Y<|sG 10 Y Y Y (dF h17) Y (dMv Y) Y<|sG 10 Y Y Y (dF h17) Y (P7 Y Y) Y<|sG 10 Y Y Y (dF h17) Y (dGt Y Y) Y<|sQ (V0 Y (dF h17) Y) Y<|j0<|b5 Y (fun h18=>?_) (fun h18=>?_)
          ·refine sSR Y<|sA Y Y<|j0<|q9<|Q1 [] Try.func27 Try.results27 (rT Y) ⟨Y,Y⟩
          ·refine f3<|sSR Y<|sM Y Y<|sQ (dNc ptF Y) Y<|sQ (dFA fa61_0 Y) Y<|sQ (dLd g3 Y Y) Y<|sA Y Y<|sES Y<|sM Y Y<|sM Y Y<|sQ (P7 Y Y) Y<|sA Y Y<|sES Y<|sM Y Y<|sQ (dGt Y Y) Y<|j0<|b5 Y (fun h19=>?_) (fun h19=>?_)
           ·refine sSR Y<|sA Y Y<|j0<|q9<|Q1 [] Try.func27 Try.results27 (rT Y) ⟨Y,Y⟩
           ·refine f3<|W4<|j6 Y<|sQ (P7 Y Y) Y<|sM Y Y<|j0<|m5 (again0 ((rd g1.Rules t11).Head,IntKind.wrap .i64 (all10+r14.1),IntKind.wrap .i64 (t11+1)) ()) [] ⟨Y,Y,Y,Y,Y,trivial⟩ Y
       ·refine g7 Y<|m5 (out0 (head9,all10,t11) ()) [] ⟨Y,Y,Y,Y,Y,trivial⟩ Y
def seqs_Is (K:Nat) (g1:Grammar) (p2:Place):Option Bool:=if p2.Rule<0 then some false else if (g1.Rules.length:Int)≤p2.Rule then some false else if p2.Rule<(g1.Rules.length:Int) then if 0≤p2.Conj then if p2.Conj<(((rd g1.Rules p2.Rule).Conj).length:Int) then if 0≤p2.Pos then some (decide (p2.Pos≤(((rd ((rd g1.Rules p2.Rule).Conj) p2.Conj).Seq).length:Int))) else some false else some false else some false else none
theorem seqs_Is_ok (K:Nat) (g1:Grammar) (p2:Place):Pure Try.prog 30 [.fptr (cGrammar.e g1),.agg (cPlace.e p2)] (seqs_Is K g1 p2) (fun r=>Ab r):=by
 refine spec_of' Try.func30 rfl Try.ntmps30 (le_ rfl) ?_
 refine sSR Y<|sQ (W8 (az:=cPlace.e p2) Y cAgg) Y<|sA Y Y<|j0<|P2<|P2<|Ja (fun h3=>?_) (fun h3=>?_)
 ·refine f8 13 mixed Y (by kernel_rfl) (by kernel_rfl) (by kernel_rfl) (.r (dFA fa55_0 Y) Y<|.r (dLd g3 Y Y) Y<|.r (dLt Y Y) Y<|.m Y Y<|.w 3 Y Y Y (dT h3) Y Y<|.w 3 Y Y Y (dT h3) Y Y<|.w 3 Y Y Y (dT h3) Y Y<|.w 3 Y Y Y (dT h3) Y Y<|.w 3 Y Y Y (dT h3) Y Y<|.w 3 Y Y Y (dT h3) Y Y<|.w 3 Y Y Y (dT h3) Y Y<|.w 3 Y Y Y (dT h3) Y Y<|.r (L1 Y (dT h3) Y) Y .n) Y<|j0<|V5 Y Y<|sSR Y<|sA Y Y<|j0<|Q1 [] Try.func30 Try.results30 (rT Y) ⟨Y,Y⟩
 ·refine f8 13 mixed Y (by kernel_rfl) (by kernel_rfl) (by kernel_rfl) (.r (dFA fa55_0 Y) Y<|.r (dLd g3 Y Y) Y<|.r (dLt Y Y) Y<|.m Y Y<|.g 3 Y Y Y (dF h3) Y (dFA fa55_0 Y) Y<|.g 3 Y Y Y (dF h3) Y (dLd g3 Y Y) Y<|.g 3 Y Y Y (dF h3) Y (dMv Y) Y<|.g 3 Y Y Y (dF h3) Y (dNc ptF Y) Y<|.g 3 Y Y Y (dF h3) Y (dFA fa25_2 Y) Y<|.g 3 Y Y Y (dF h3) Y (dLd g23 Y Y) Y<|.g 3 Y Y Y (dF h3) Y (P6 Try.underlying23 Y) Y<|.g 3 Y Y Y (dF h3) Y (dGe Y Y) Y<|.r (V0 Y (dF h3) Y) Y .n) Y<|j0<|b5 Y (fun h4=>?_) (fun h4=>?_)
  ·refine sSR Y<|sA Y Y<|j0<|Q1 [] Try.func30 Try.results30 (rT Y) ⟨Y,Y⟩
  ·refine f3<|P2<|sIf fun h5=>f8 8 mixed Y (by kernel_rfl) (by kernel_rfl) (by kernel_rfl) (.m Y Y<|.r (dNc ptF Y) Y<|.r (dFA fa25_2 Y) Y<|.r (dLd g23 Y Y) Y<|.r (dFA fa55_0 Y) Y<|.r (dLd g3 Y Y) Y<|.r (dIx Try.underlying23 z61 Y Y (Int.not_lt.1 h3) h5) Y<|.r (dAs Y) Y .n) Y<|j0<|P2<|Ja (fun h6=>?_) (fun h6=>?_)
   ·refine Ja (fun h7=>?_) (fun h7=>?_)
    ·refine Ja (fun h8=>?_) (fun h8=>?_)
     ·refine f8 34 mixed Y (by kernel_rfl) (by kernel_rfl) (by kernel_rfl) (.r (dFA fa55_1 Y) Y<|.r (dLd g3 Y Y) Y<|.r (dGe Y Y) Y<|.m Y Y<|.g 3 Y Y Y (dT h6) Y (dFA fa55_1 Y) Y<|.g 3 Y Y Y (dT h6) Y (dLd g3 Y Y) Y<|.g 3 Y Y Y (dT h6) Y (dMv Y) Y<|.g 3 Y Y Y (dT h6) Y (dNc ptF Y) Y<|.g 3 Y Y Y (dT h6) Y (dFA fa61_1 Y) Y<|.g 3 Y Y Y (dT h6) Y (dLd g59 Y Y) Y<|.g 3 Y Y Y (dT h6) Y (P6 Try.underlying59 Y) Y<|.g 3 Y Y Y (dT h6) Y (dLt Y Y) Y<|.r (L1 Y (dT h6) Y) Y<|.m Y Y<|.g 13 Y Y Y (dT h7) Y (dFA fa55_2 Y) Y<|.g 13 Y Y Y (dT h7) Y (dLd g3 Y Y) Y<|.g 13 Y Y Y (dT h7) Y (dGe Y Y) Y<|.r (L1 Y (dT h7) Y) Y<|.m Y Y<|.g 18 Y Y Y (dT h8) Y (dFA fa55_2 Y) Y<|.g 18 Y Y Y (dT h8) Y (dLd g3 Y Y) Y<|.g 18 Y Y Y (dT h8) Y (dMv Y) Y<|.g 18 Y Y Y (dT h8) Y (dNc ptF Y) Y<|.g 18 Y Y Y (dT h8) Y (dFA fa61_1 Y) Y<|.g 18 Y Y Y (dT h8) Y (dLd g59 Y Y) Y<|.g 18 Y Y Y (dT h8) Y (dFA fa55_1 Y) Y<|.g 18 Y Y Y (dT h8) Y (dLd g3 Y Y) Y<|.g 18 Y Y Y (dT h8) Y (dIx Try.underlying59 z58 Y Y h6 h7) Y<|.g 18 Y Y Y (dT h8) Y (dFA fa58_1 Y) Y<|.g 18 Y Y Y (dT h8) Y (dLd g56 Y Y) Y<|.g 18 Y Y Y (dT h8) Y (P6 Try.underlying56 Y) Y<|.g 18 Y Y Y (dT h8) Y (dLe Y Y) Y<|.r (L1 Y (dT h8) Y) Y<|.r (dAs Y) Y .n) Y<|j0<|Q1 [] Try.func30 Try.results30 (rT Y) ⟨Y,Y⟩
     ·refine f8 34 mixed Y (by kernel_rfl) (by kernel_rfl) (by kernel_rfl) (.r (dFA fa55_1 Y) Y<|.r (dLd g3 Y Y) Y<|.r (dGe Y Y) Y<|.m Y Y<|.g 3 Y Y Y (dT h6) Y (dFA fa55_1 Y) Y<|.g 3 Y Y Y (dT h6) Y (dLd g3 Y Y) Y<|.g 3 Y Y Y (dT h6) Y (dMv Y) Y<|.g 3 Y Y Y (dT h6) Y (dNc ptF Y) Y<|.g 3 Y Y Y (dT h6) Y (dFA fa61_1 Y) Y<|.g 3 Y Y Y (dT h6) Y (dLd g59 Y Y) Y<|.g 3 Y Y Y (dT h6) Y (P6 Try.underlying59 Y) Y<|.g 3 Y Y Y (dT h6) Y (dLt Y Y) Y<|.r (L1 Y (dT h6) Y) Y<|.m Y Y<|.g 13 Y Y Y (dT h7) Y (dFA fa55_2 Y) Y<|.g 13 Y Y Y (dT h7) Y (dLd g3 Y Y) Y<|.g 13 Y Y Y (dT h7) Y (dGe Y Y) Y<|.r (L1 Y (dT h7) Y) Y<|.m Y Y<|.w 18 Y Y Y (dF h8) Y Y<|.w 18 Y Y Y (dF h8) Y Y<|.w 18 Y Y Y (dF h8) Y Y<|.w 18 Y Y Y (dF h8) Y Y<|.w 18 Y Y Y (dF h8) Y Y<|.w 18 Y Y Y (dF h8) Y Y<|.w 18 Y Y Y (dF h8) Y Y<|.w 18 Y Y Y (dF h8) Y Y<|.w 18 Y Y Y (dF h8) Y Y<|.w 18 Y Y Y (dF h8) Y Y<|.w 18 Y Y Y (dF h8) Y Y<|.w 18 Y Y Y (dF h8) Y Y<|.w 18 Y Y Y (dF h8) Y Y<|.r (V0 Y (dF h8) Y) Y<|.r (dAs Y) Y .n) Y<|j0<|Q1 [] Try.func30 Try.results30 (rT Y) ⟨Y,Y⟩
    ·refine f8 34 mixed Y (by kernel_rfl) (by kernel_rfl) (by kernel_rfl) (.r (dFA fa55_1 Y) Y<|.r (dLd g3 Y Y) Y<|.r (dGe Y Y) Y<|.m Y Y<|.g 3 Y Y Y (dT h6) Y (dFA fa55_1 Y) Y<|.g 3 Y Y Y (dT h6) Y (dLd g3 Y Y) Y<|.g 3 Y Y Y (dT h6) Y (dMv Y) Y<|.g 3 Y Y Y (dT h6) Y (dNc ptF Y) Y<|.g 3 Y Y Y (dT h6) Y (dFA fa61_1 Y) Y<|.g 3 Y Y Y (dT h6) Y (dLd g59 Y Y) Y<|.g 3 Y Y Y (dT h6) Y (P6 Try.underlying59 Y) Y<|.g 3 Y Y Y (dT h6) Y (dLt Y Y) Y<|.r (L1 Y (dT h6) Y) Y<|.m Y Y<|.w 13 Y Y Y (dF h7) Y Y<|.w 13 Y Y Y (dF h7) Y Y<|.w 13 Y Y Y (dF h7) Y Y<|.r (V0 Y (dF h7) Y) Y<|.m Y Y<|.w 18 Y Y Y Y Y Y<|.w 18 Y Y Y Y Y Y<|.w 18 Y Y Y Y Y Y<|.w 18 Y Y Y Y Y Y<|.w 18 Y Y Y Y Y Y<|.w 18 Y Y Y Y Y Y<|.w 18 Y Y Y Y Y Y<|.w 18 Y Y Y Y Y Y<|.w 18 Y Y Y Y Y Y<|.w 18 Y Y Y Y Y Y<|.w 18 Y Y Y Y Y Y<|.w 18 Y Y Y Y Y Y<|.w 18 Y Y Y Y Y Y<|.r (V0 Y Y Y) Y<|.r (dAs Y) Y .n) Y<|j0<|Q1 [] Try.func30 Try.results30 (rT Y) ⟨Y,Y⟩
   ·refine f8 34 mixed Y (by kernel_rfl) (by kernel_rfl) (by kernel_rfl) (.r (dFA fa55_1 Y) Y<|.r (dLd g3 Y Y) Y<|.r (dGe Y Y) Y<|.m Y Y<|.w 3 Y Y Y (dF h6) Y Y<|.w 3 Y Y Y (dF h6) Y Y<|.w 3 Y Y Y (dF h6) Y Y<|.w 3 Y Y Y (dF h6) Y Y<|.w 3 Y Y Y (dF h6) Y Y<|.w 3 Y Y Y (dF h6) Y Y<|.w 3 Y Y Y (dF h6) Y Y<|.w 3 Y Y Y (dF h6) Y Y<|.r (V0 Y (dF h6) Y) Y<|.m Y Y<|.w 13 Y Y Y Y Y Y<|.w 13 Y Y Y Y Y Y<|.w 13 Y Y Y Y Y Y<|.r (V0 Y Y Y) Y<|.m Y Y<|.w 18 Y Y Y Y Y Y<|.w 18 Y Y Y Y Y Y<|.w 18 Y Y Y Y Y Y<|.w 18 Y Y Y Y Y Y<|.w 18 Y Y Y Y Y Y<|.w 18 Y Y Y Y Y Y<|.w 18 Y Y Y Y Y Y<|.w 18 Y Y Y Y Y Y<|.w 18 Y Y Y Y Y Y<|.w 18 Y Y Y Y Y Y<|.w 18 Y Y Y Y Y Y<|.w 18 Y Y Y Y Y Y<|.w 18 Y Y Y Y Y Y<|.r (V0 Y Y Y) Y<|.r (dAs Y) Y .n) Y<|j0<|Q1 [] Try.func30 Try.results30 (rT Y) ⟨Y,Y⟩
def W7 (K:Nat) (p1:Place) (t2:Grammar):Option Bool:=(seqs_Is K t2 p1).bind fun r3=>some (!r3)
theorem M9 (K:Nat) (p1:Place) (t2:Grammar):Pure Try.prog 29 [.agg (cPlace.e p1),.fptr (cGrammar.e t2)] (W7 K p1 t2) (fun r=>Ab r):=by
 refine spec_of' Try.func29 rfl Try.ntmps29 (le_ rfl) ?_
 refine sSR Y<|sQ (W8 (az:=cPlace.e p1) Y cAgg) Y<|sA Y Y<|sES Y<|sQ (J8 g55 z55 Y (le_ Y)) Y<|L4 fun r3 e4=>sQ (j5 ent30 (seqs_Is_ok K _ _) e4 (.s Y<|.s Y .nil)) Y<|sQ (V8 Y) Y<|sA Y Y<|j0<|Q1 [] Try.func29 Try.results29 (rT Y) ⟨Y,Y⟩
def slices_Clone_api_Place_api_Place (K:Nat) (s1:(List Place)):Option (List Place):=if (([]:List Place).length+s1.length)*24≤140737488355328 then some (([]:List Place)++s1) else none
theorem slices_Clone_api_Place_api_Place_ok (K:Nat) (s1:(List Place)):Fresh1 Try.prog 52 [.fsl cPlace s1] (slices_Clone_api_Place_api_Place K s1) (fun r v=>.sv v) (fun r v=>[.own 55 cPlace v r]):=by
 refine fresh_of Try.func52 rfl Try.ntmps52 (le_ rfl) ?_
 refine sSR Y<|sA Y Y<|j0<|P2<|sSR Y<|sM Y Y<|td Try.underlying26 Y Y fun u2 hu3=>j0<|?_
 cases u2
 ·refine y9 Y Y<|f3<|sSR Y<|sQ (fb (c:=cPlace) Try.underlying26 z55 y5) Y<|sM Y Y<|Wa 5 55 cPlace Y fun v5=>c7 fun h6=>sAp (j:=0) Try.underlying26 y5 Y Y Y Y h6 Y Y fun v7=>sA Y Y<|j0<|Q1 [] Try.func52 Try.results52 (rT Y) ⟨_,Y,Y⟩
 ·obtain rfl:=hu3 rfl
  refine sTo (x':=some ([]:List Place)) ?_ ?_
  ·simp [slices_Clone_api_Place_api_Place]
  refine V5 Y Y<|sSR Y<|sA Y Y<|j0<|vb 2 55 cPlace Y fun v4=>Q1 [] Try.func52 Try.results52 (rT Y) ⟨_,Y,Y⟩
def m7 (K:Nat) (g1:Grammar) (p2:Place):Option (Symbol×Bool):=if 0≤p2.Rule then if p2.Rule<(g1.Rules.length:Int) then if 0≤p2.Conj then if p2.Conj<(((rd g1.Rules p2.Rule).Conj).length:Int) then if p2.Pos=(((rd ((rd g1.Rules p2.Rule).Conj) p2.Conj).Seq).length:Int) then some ((⟨(0:Int),(0:Int),(0:Int)⟩:Symbol),false) else if 0≤p2.Pos then if p2.Pos<(((rd ((rd g1.Rules p2.Rule).Conj) p2.Conj).Seq).length:Int) then some ((⟨(rd ((rd ((rd g1.Rules p2.Rule).Conj) p2.Conj).Seq) p2.Pos).Name,(rd ((rd ((rd g1.Rules p2.Rule).Conj) p2.Conj).Seq) p2.Pos).Lo,(rd ((rd ((rd g1.Rules p2.Rule).Conj) p2.Conj).Seq) p2.Pos).Hi⟩:Symbol),true) else none else none else none else none else none else none
theorem y8 (K:Nat) (g1:Grammar) (p2:Place):Pure Try.prog 53 [.fptr (cGrammar.e g1),.agg (cPlace.e p2)] (m7 K g1 p2) (fun r=>.tup [.agg (cSymbol.e r.1),Ab r.2]):=by
 refine spec_of' Try.func53 rfl Try.ntmps53 (le_ rfl) ?_
 refine sSR Y<|sQ (W8 (az:=cPlace.e p2) Y cAgg) Y<|f7 (az:=[Ai .i64 (0:Int),Ai .i64 (0:Int),Ai .i64 (0:Int)]) al51 (fun _ _=>.cons Y (.cons Y (.cons Y .nil))) Y fun b3=>sA Y Y<|j0<|P2<|sIf fun h4=>sIf fun h5=>sIf fun h6=>sIf fun h7=>f8 15 mixed Y (by kernel_rfl) (by kernel_rfl) (by kernel_rfl) (.m Y Y<|.r (dNc ptF Y) Y<|.r (dFA fa25_2 Y) Y<|.r (dLd g23 Y Y) Y<|.r (dFA fa55_0 Y) Y<|.r (dLd g3 Y Y) Y<|.r (dIx Try.underlying23 z61 Y Y h4 h5) Y<|.r (dFA fa61_1 Y) Y<|.r (dLd g59 Y Y) Y<|.r (dFA fa55_1 Y) Y<|.r (dLd g3 Y Y) Y<|.r (dIx Try.underlying59 z58 Y Y h6 h7) Y<|.r (dFA fa58_1 Y) Y<|.r (dLd g56 Y Y) Y<|.r (dAs Y) Y .n) Y<|j0<|P2<|sSR Y<|sQ (dFA fa55_2 Y) Y<|sQ (dLd g3 Y Y) Y<|sM Y Y<|sQ (P6 Try.underlying56 Y) Y<|sQ (dEq Y Y) Y<|j0<|b5 Y (fun h8=>?_) (fun h8=>?_)
 ·refine sSR Y<|sQ (m6 (az:=[Ai .i64 (0:Int),Ai .i64 (0:Int),Ai .i64 (0:Int)]) Try.underlying51 zv51 pl51 (fun _ _=>.cons Y (.cons Y (.cons Y .nil))) (.nil)) Y<|k8 (j:=0) z51 Y Y Y cAgg ⟨(oLit Y),(oLit Y),(oLit Y),trivial⟩ Y (le_ Y)<|sA Y Y<|j0<|c8 [0] Try.func53 Try.results53 (rC (j:=0) g51 z51 Y Y Y) (rT Y) ⟨Y,Y⟩
 ·refine f3<|sSR Y<|sM Y Y<|sQ (dFA fa55_2 Y) Y<|sQ (dLd g3 Y Y) Y<|c7 fun h9=>c7 fun h10=>sQ (dIx Try.underlying56 z51 Y Y h9 h10) Y<|sQ (J8 g51 z51 Y (le_ Y)) Y<|k8 (j:=0) z51 Y Y Y cAgg ((cSymbol).one _) Y (le_ Y)<|sA Y Y<|j0<|c8 [0] Try.func53 Try.results53 (rC (j:=0) g51 z51 Y Y Y) (rT Y) ⟨Y,Y⟩
def f2.l1 (K:Nat) (g1:Grammar) (t6:Int):Nat→((List Place)×Int)→Option ((List Place)×Int)
 | 0,_=>none
 | m+1,(xs11,t12)=>if t12<(((rd g1.Rules t6).Conj).length:Int) then if (xs11.length+([(⟨t6,t12,(0:Int)⟩:Place)]:List Place).length)*24≤140737488355328 then f2.l1 K g1 t6 m (xs11++([(⟨t6,t12,(0:Int)⟩:Place)]:List Place),IntKind.wrap .i64 (t12+1)) else none else some (xs11,t12)
def f2.l0 (K:Nat) (g1:Grammar) (name2:Int):Nat→((List Place)×Int)→Option ((List Place)×Int)
 | 0,_=>none
 | m+1,(xs5,t6)=>if t6<(g1.Rules.length:Int) then if 0≤t6 then if ((rd g1.Rules t6).Head)≠name2 then f2.l0 K g1 name2 m (xs5,IntKind.wrap .i64 (t6+1)) else (f2.l1 K g1 t6 K (xs5,0)).bind fun (xs11,t12)=>f2.l0 K g1 name2 m (xs11,IntKind.wrap .i64 (t6+1)) else none else some (xs5,t6)
def f2 (K:Nat) (g1:Grammar) (name2:Int):Option (List Place):=(f2.l0 K g1 name2 K (([]:List Place),0)).bind fun (xs5,t6)=>some xs5
theorem z8 (K:Nat) (g1:Grammar) (name2:Int):Fresh1 Try.prog 35 [.fptr (cGrammar.e g1),Ai .i64 name2] (f2 K g1 name2) (fun r v=>.sv v) (fun r v=>[.own 55 cPlace v r]):=by
 refine fresh_of Try.func35 rfl Try.ntmps35 (le_ rfl) ?_
 refine sSR Y<|sA Y Y<|sES Y<|sA Y Y<|j0<|P2<|sSR Y<|sM Y Y<|sQ (dNc ptF Y) Y<|sQ (dFA fa25_2 Y) Y<|sQ (dLd g23 Y Y) Y<|sQ (P6 Try.underlying23 Y) Y<|sM Y Y<|j0<|vb 5 55 cPlace Y fun v3=>sLo (f2.l0 K g1 name2) (fun ((xs5,t6):((List Place)×Int)) (v4:Value)=>([(0,.fptr ((cGrammar.e g1))),(1,Ai .i64 name2),(5,.sv v4),(12,Ai .i64 (g1.Rules.length:Int)),(13,Ai .i64 t6)]:Fr)) (fun ((xs5,t6):((List Place)×Int)) (v4:Value)=>([.own 55 cPlace v4 xs5]:List Res)) v3 (fun _=>Y) [] ⟨Y,Y,Y,Y,Y,trivial⟩ Y ?_ ?_
 ·rintro ⟨xs5,t6⟩ v4
  refine sSR Y<|sM Y Y<|sA Y Y<|j0<|Q1 [] Try.func35 Try.results35 (rT Y) ⟨_,Y,Y⟩
 ·rintro m ⟨xs5,t6⟩ v4 again0 out0
  refine sSR Y<|sQ (dLt Y Y) Y<|j0<|P2<|b5 Y (fun h7=>?_) (fun h7=>?_)
  ·refine f3<|P2<|m8<|sSR Y<|sM Y Y<|sA Y Y<|j0<|P2<|sSR Y<|sM Y Y<|sQ (dNc ptF Y) Y<|sQ (dFA fa25_2 Y) Y<|sQ (dLd g23 Y Y) Y<|sM Y Y<|c7 fun h8=>sQ (dIx Try.underlying23 z61 Y Y h8 h7) Y<|sQ (dFA fa61_0 Y) Y<|sQ (dLd g3 Y Y) Y<|sM Y Y<|sQ (dNe Y Y) Y<|j0<|b5 Y (fun h9=>?_) (fun h9=>?_)
   ·refine g7 Y<|j6 Y<|sQ (P7 Y Y) Y<|sM Y Y<|j0<|m5 (again0 (xs5,IntKind.wrap .i64 (t6+1)) v4) [0] ⟨Y,Y,Y,Y,Y,trivial⟩ Y
   ·refine f3<|sSR Y<|sM Y Y<|sQ (dNc ptF Y) Y<|sQ (dFA fa25_2 Y) Y<|sQ (dLd g23 Y Y) Y<|sM Y Y<|sQ (dIx Try.underlying23 z61 Y Y h8 h7) Y<|sQ (dFA fa61_1 Y) Y<|sQ (dLd g59 Y Y) Y<|sQ (P6 Try.underlying59 Y) Y<|sM Y Y<|j0<|sLo (f2.l1 K g1 t6) (fun ((xs11,t12):((List Place)×Int)) (v10:Value)=>([(0,.fptr ((cGrammar.e g1))),(1,Ai .i64 name2),(5,.sv v10),(6,Ai .i64 t6),(12,Ai .i64 (g1.Rules.length:Int)),(13,Ai .i64 t6),(34,Ai .i64 (((rd g1.Rules t6).Conj).length:Int)),(35,Ai .i64 t12)]:Fr)) (fun ((xs11,t12):((List Place)×Int)) (v10:Value)=>([.own 55 cPlace v10 xs11]:List Res)) v4 (fun _=>Y) [] ⟨Y,Y,Y,Y,Y,Y,Y,Y,trivial⟩ Y ?_ ?_
    ·rintro ⟨xs11,t12⟩ v10
     refine W4<|j6 Y<|sQ (P7 Y Y) Y<|sM Y Y<|j0<|m5 (again0 (xs11,IntKind.wrap .i64 (t6+1)) v10) [0] ⟨Y,Y,Y,Y,Y,trivial⟩ Y
    ·rintro m ⟨xs11,t12⟩ v10 again1 out1
     refine sSR Y<|sQ (dLt Y Y) Y<|j0<|P2<|b5 Y (fun h13=>?_) (fun h13=>?_)
     ·refine f3<|P2<|m8<|sSR Y<|sM Y Y<|sA Y Y<|j0<|j6 Y<|sM Y Y<|sM Y Y<|sM Y Y<|sQ (m6 (az:=[Ai .i64 (0:Int),Ai .i64 (0:Int),Ai .i64 (0:Int)]) Try.underlying55 zv55 pl55 (fun _ _=>.cons Y (.cons Y (.cons Y .nil))) (.c Y Y (cOne (oLit Y)) Y Y (.c Y Y (cOne (oLit Y)) Y Y .nil))) Y<|sQ (dBS (c:=cPlace) (xs:=([(⟨t6,t12,(0:Int)⟩:Place)]:List Place)) Try.underlying26 z55 y5 (.c Y cAgg .nil) Y) Y<|c7 fun h14=>sAp (j:=0) Try.underlying26 y5 Y Y Y Y h14 Y Y fun v15=>sA Y Y<|j0<|W4<|j6 Y<|sQ (P7 Y Y) Y<|sM Y Y<|j0<|m5 (again1 (xs11++([(⟨t6,t12,(0:Int)⟩:Place)]:List Place),IntKind.wrap .i64 (t12+1)) v15) [0] ⟨Y,Y,Y,Y,Y,Y,Y,Y,trivial⟩ Y
     ·refine g7 Y<|m5 (out1 (xs11,t12) v10) [0] ⟨Y,Y,Y,Y,Y,Y,Y,Y,trivial⟩ Y
  ·refine g7 Y<|m5 (out0 (xs5,t6) v4) [0] ⟨Y,Y,Y,Y,Y,trivial⟩ Y
def cmp_isNaN_int (K:Nat) (x1:Int):Option Bool:=some (decide (x1≠x1))
theorem cmp_isNaN_int_ok (K:Nat) (x1:Int):Pure Try.prog 79 [Ai .i64 x1] (cmp_isNaN_int K x1) (fun r=>Ab r):=by
 refine spec_of' Try.func79 rfl Try.ntmps79 (le_ rfl) ?_
 refine sSR Y<|sA Y Y<|sES Y<|sM Y Y<|sM Y Y<|sQ (dNe Y Y) Y<|sA Y Y<|j0<|Q1 [] Try.func79 Try.results79 (rT Y) ⟨Y,Y⟩
def cmp_Compare_int (K:Nat) (x1:Int) (y2:Int):Option Int:=(cmp_isNaN_int K x1).bind fun r3=>(cmp_isNaN_int K y2).bind fun r5=>if r3=true then if r5=true then some 0 else some (-1) else if r5=true then some 1 else if x1<y2 then some (-1) else if y2<x1 then some 1 else some 0
theorem cmp_Compare_int_ok (K:Nat) (x1:Int) (y2:Int):Pure Try.prog 72 [Ai .i64 x1,Ai .i64 y2] (cmp_Compare_int K x1 y2) (fun r=>Ai .i64 r):=by
 refine spec_of' Try.func72 rfl Try.ntmps72 (le_ rfl) ?_
 refine sSR Y<|sA Y Y<|sES Y<|sM Y Y<|L4 fun r3 e4=>sQ (j5 ent79 (cmp_isNaN_int_ok K _) e4 (.s Y .nil)) Y<|sA Y Y<|sES Y<|sM Y Y<|L4 fun r5 e6=>sQ (j5 ent79 (cmp_isNaN_int_ok K _) e6 (.s Y .nil)) Y<|sA Y Y<|j0<|P2<|sSR Y<|sM Y Y<|j0<|W6 Y (fun h7=>?_) (fun h7=>?_)
 ·refine P2<|sSR Y<|sM Y Y<|j0<|W6 Y (fun h8=>?_) (fun h8=>?_)
  ·refine sSR Y<|sA Y Y<|j0<|Q1 [] Try.func72 Try.results72 (rT Y) ⟨Y,Y⟩
  ·refine f3<|sSR Y<|sA Y Y<|j0<|Q1 [] Try.func72 Try.results72 (rT Y) ⟨Y,Y⟩
 ·refine f3<|P2<|sSR Y<|sM Y Y<|j0<|W6 Y (fun h9=>?_) (fun h9=>?_)
  ·refine sSR Y<|sA Y Y<|j0<|Q1 [] Try.func72 Try.results72 (rT Y) ⟨Y,Y⟩
  ·refine f3<|P2<|sSR Y<|sM Y Y<|sM Y Y<|sQ (dLt Y Y) Y<|j0<|b5 Y (fun h10=>?_) (fun h10=>?_)
   ·refine sSR Y<|sA Y Y<|j0<|Q1 [] Try.func72 Try.results72 (rT Y) ⟨Y,Y⟩
   ·refine f3<|P2<|sSR Y<|sM Y Y<|sM Y Y<|sQ (dGt Y Y) Y<|j0<|b5 Y (fun h11=>?_) (fun h11=>?_)
    ·refine sSR Y<|sA Y Y<|j0<|Q1 [] Try.func72 Try.results72 (rT Y) ⟨Y,Y⟩
    ·refine f3<|sSR Y<|sA Y Y<|j0<|Q1 [] Try.func72 Try.results72 (rT Y) ⟨Y,Y⟩
def cmp_Or_int.l0 (K:Nat) (vals1:(List Int)):Nat→Int→Option (Int ⊕ Int)
 | 0,_=>none
 | m+1,t2=>if t2<(vals1.length:Int) then if 0≤t2 then if (rd vals1 t2)≠0 then some (.inr (rd vals1 t2)) else cmp_Or_int.l0 K vals1 m (IntKind.wrap .i64 (t2+1)) else none else some (.inl t2)
def cmp_Or_int (K:Nat) (vals1:(List Int)):Option Int:=brk (cmp_Or_int.l0 K vals1 K 0) fun t2=>some 0
theorem cmp_Or_int_ok (K:Nat) (vals1:(List Int)):Pure Try.prog 71 [.fsl (cI .i64) vals1] (cmp_Or_int K vals1) (fun r=>Ai .i64 r):=by
 refine spec_of' Try.func71 rfl Try.ntmps71 (le_ rfl) ?_
 refine sSR Y<|sA Y Y<|sES Y<|sA Y Y<|j0<|P2<|sSR Y<|sM Y Y<|sQ (P6 Try.underlying132 Y) Y<|sM Y Y<|j0<|qa (cmp_Or_int.l0 K vals1) (fun (t2:Int) (_:Unit)=>([(3,Ai .i64 0),(6,.fsl (cI .i64) vals1),(7,Ai .i64 (vals1.length:Int)),(8,Ai .i64 t2)]:Fr)) (fun (t2:Int) (_:Unit)=>([]:List Res)) () (fun _=>Y) [] ⟨Y,Y,Y,Y,trivial⟩ Y ?_ ?_
 ·rintro t2 _
  refine sSR Y<|sM Y Y<|sA Y Y<|j0<|Q1 [] Try.func71 Try.results71 (rT Y) ⟨Y,Y⟩
 ·rintro m t2 _ again0 out0
  refine sSR Y<|sQ (dLt Y Y) Y<|j0<|P2<|b5 Y (fun h3=>?_) (fun h3=>?_)
  ·refine f3<|P2<|m8<|sSR Y<|c7 fun h4=>sQ (dIx Try.underlying132 z3 Y Y h4 h3) Y<|sQ (dLd g3 Y Y) Y<|sA Y Y<|sES Y<|sM Y Y<|sM Y Y<|sQ (dNe Y Y) Y<|j0<|b5 Y (fun h5=>?_) (fun h5=>?_)
   ·refine sSR Y<|sM Y Y<|sA Y Y<|j0<|q9<|Q1 [] Try.func71 Try.results71 (rT Y) ⟨Y,Y⟩
   ·refine f3<|W4<|j6 Y<|sQ (P7 Y Y) Y<|sM Y Y<|j0<|m5 (again0 (IntKind.wrap .i64 (t2+1)) ()) [] ⟨Y,Y,Y,Y,trivial⟩ Y
  ·refine g7 Y<|m5 (out0 t2 ()) [] ⟨Y,Y,Y,Y,trivial⟩ Y
def L9 (K:Nat) (a1:Place) (b2:Place):Option Int:=(cmp_Compare_int K a1.Rule b2.Rule).bind fun r3=>(cmp_Compare_int K a1.Conj b2.Conj).bind fun r5=>(cmp_Compare_int K a1.Pos b2.Pos).bind fun r7=>(cmp_Or_int K ([r3,r5,r7]:List Int)).bind fun r9=>some r9
theorem wa (K:Nat) (a1:Place) (b2:Place):Pure Try.prog 56 [.agg (cPlace.e a1),.agg (cPlace.e b2)] (L9 K a1 b2) (fun r=>Ai .i64 r):=by
 refine spec_of' Try.func56 rfl Try.ntmps56 (le_ rfl) ?_
 refine sSR Y<|sQ (W8 (az:=cPlace.e a1) Y cAgg) Y<|sQ (W8 (az:=cPlace.e b2) Y cAgg) Y<|sA Y Y<|j0<|P2<|aa fun r3 e4=>aa fun r5 e6=>aa fun r7 e8=>aa fun r9 e10=>f8 18 mixed Y (by kernel_rfl) (by kernel_rfl) (by kernel_rfl) (.r (dFA fa55_0 Y) Y<|.r (dLd g3 Y Y) Y<|.r (dFA fa55_0 Y) Y<|.r (dLd g3 Y Y) Y<|.r (j5 ent72 (cmp_Compare_int_ok K _ _) e4 (.s Y<|.s Y .nil)) Y<|.r (dFA fa55_1 Y) Y<|.r (dLd g3 Y Y) Y<|.r (dFA fa55_1 Y) Y<|.r (dLd g3 Y Y) Y<|.r (j5 ent72 (cmp_Compare_int_ok K _ _) e6 (.s Y<|.s Y .nil)) Y<|.r (dFA fa55_2 Y) Y<|.r (dLd g3 Y Y) Y<|.r (dFA fa55_2 Y) Y<|.r (dLd g3 Y Y) Y<|.r (j5 ent72 (cmp_Compare_int_ok K _ _) e8 (.s Y<|.s Y .nil)) Y<|.r (dBS (c:=(cI .i64)) (xs:=([r3,r5,r7]:List Int)) Try.underlying132 z3 Wd (.c Y (cOne (oLit Y)) (.c Y (cOne (oLit Y)) (.c Y (cOne (oLit Y)) .nil))) Y) Y<|.r (j5 ent71 (cmp_Or_int_ok K _) e10 (.s Y .nil)) Y<|.r (dAs Y) Y .n) Y<|j0<|Q1 [] Try.func56 Try.results56 (rT Y) ⟨Y,Y⟩
open Go.Shelf
def sort69_ren:Go.Shelf.Ren:=⟨fun | 6=>69 | 15=>78 | 14=>77 | 28=>88 | 29=>89 | 20=>80 | 21=>81 | 22=>82 | 23=>83 | 24=>84 | 25=>85 | 26=>86 | 27=>87 | 46=>90 | 47=>91 | 48=>92 | 49=>93 | 50=>94 | 57=>95 | n=>n,fun | 22=>26 | 24=>55 | 25=>108 | 3=>3 | 39=>128 | 0=>0 | 53=>142 | 55=>144 | 4=>4 | 46=>136 | 45=>135 | 50=>90 | 5=>5 | 9=>9 | 66=>145 | 70=>149 | 76=>151 | 77=>152 | n=>n,fun | n=>n⟩
theorem sort69:SlLaysF0.n6 Try.prog sort69_ren:={
 mixed:=by kernel_rfl
 f6:=⟨Try.f69.name,by decide,Try.func69.trans (congrArg some (by kernel_rfl))⟩
 f14:=⟨Try.f77.name,by decide,Try.func77.trans (congrArg some (by kernel_rfl))⟩
 f15:=Try.func78.trans (congrArg some (by kernel_rfl))
 f20:=⟨Try.f80.name,by decide,Try.func80.trans (congrArg some (by kernel_rfl))⟩
 f21:=⟨Try.f81.name,by decide,Try.func81.trans (congrArg some (by kernel_rfl))⟩
 f22:=⟨Try.f82.name,by decide,Try.func82.trans (congrArg some (by kernel_rfl))⟩
 f23:=⟨Try.f83.name,by decide,Try.func83.trans (congrArg some (by kernel_rfl))⟩
 f24:=⟨Try.f84.name,by decide,Try.func84.trans (congrArg some (by kernel_rfl))⟩
 f25:=⟨Try.f85.name,by decide,Try.func85.trans (congrArg some (by kernel_rfl))⟩
 f26:=⟨Try.f86.name,by decide,Try.func86.trans (congrArg some (by kernel_rfl))⟩
 f27:=⟨Try.f87.name,by decide,Try.func87.trans (congrArg some (by kernel_rfl))⟩
 f28:=Try.func88.trans (congrArg some (by kernel_rfl))
 f29:=Try.func89.trans (congrArg some (by kernel_rfl))
 f46:=⟨Try.f90.name,by decide,Try.func90.trans (congrArg some (by kernel_rfl))⟩
 f47:=Try.func91.trans (congrArg some (by kernel_rfl))
 f48:=Try.func92.trans (congrArg some (by kernel_rfl))
 f49:=⟨Try.f93.name,by decide,Try.func93.trans (congrArg some (by kernel_rfl))⟩
 f50:=⟨Try.f94.name,by decide,Try.func94.trans (congrArg some (by kernel_rfl))⟩
 f57:=⟨Try.f95.name,by decide,Try.func95.trans (congrArg some (by kernel_rfl))⟩
 t0:=Try.underlying0
 a0:=Try.isAgg0
 z0:=Try.sizeOf0
 v0:=Try.zeroValue0
 t3:=Try.underlying3
 a3:=Try.isAgg3
 z3:=Try.sizeOf3
 v3:=Try.zeroValue3
 t4:=Try.underlying4
 a4:=Try.isAgg4
 z4:=Try.sizeOf4
 v4:=Try.zeroValue4
 t5:=Try.underlying5
 a5:=Try.isAgg5
 z5:=Try.sizeOf5
 v5:=Try.zeroValue5
 t9:=Try.underlying9
 a9:=Try.isAgg9
 z9:=Try.sizeOf9
 v9:=Try.zeroValue9
 t22:=Try.underlying26
 a22:=Try.isAgg26
 z22:=Try.sizeOf26
 v22:=Try.zeroValue26
 t25:=Try.underlying108
 a25:=Try.isAgg108
 z25:=Try.sizeOf108
 v25:=Try.zeroValue108
 t39:=Try.underlying128
 a39:=Try.isAgg128
 z39:=Try.sizeOf128
 v39:=Try.zeroValue128
 t45:=Try.underlying135
 a45:=Try.isAgg135
 z45:=Try.sizeOf135
 v45:=Try.zeroValue135
 t46:=Try.underlying136
 a46:=Try.isAgg136
 z46:=Try.sizeOf136
 v46:=Try.zeroValue136
 t50:=Try.underlying90
 a50:=Try.isAgg90
 z50:=Try.sizeOf90
 v50:=Try.zeroValue90
 t53:=Try.underlying142
 a53:=Try.isAgg142
 z53:=Try.sizeOf142
 v53:=Try.zeroValue142
 t55:=Try.underlying144
 a55:=Try.isAgg144
 z55:=Try.sizeOf144
 v55:=Try.zeroValue144
 t66:=Try.underlying145
 a66:=Try.isAgg145
 z66:=Try.sizeOf145
 v66:=Try.zeroValue145
 t70:=Try.underlying149
 a70:=Try.isAgg149
 z70:=Try.sizeOf149
 v70:=Try.zeroValue149
 t76:=Try.underlying151
 a76:=Try.isAgg151
 z76:=Try.sizeOf151
 v76:=Try.zeroValue151
 t77:=Try.underlying152
 a77:=Try.isAgg152
 z77:=Try.sizeOf152
 v77:=Try.zeroValue152 }
end Go.Proofs.Ytgmnohjaciemmaa

namespace Go.Proofs.Ytgmnohjaciemmaa
set_option linter.unusedSimpArgs false
open S Go.Sort
set_option linter.unusedVariables false
def rowP (a b:Place):Int:=if a.Rule<b.Rule then -1 else if b.Rule<a.Rule then 1 else if a.Conj<b.Conj then -1 else if b.Conj<a.Conj then 1 else if a.Pos<b.Pos then -1 else if b.Pos<a.Pos then 1 else 0
theorem compare_eq (K:Nat) (x y:Int):cmp_Compare_int K x y=some (if x<y then -1 else if y<x then 1 else 0):=by
 unfold cmp_Compare_int cmp_isNaN_int
 simp only [Option.bind_some]
 by_cases h1:x<y
 ·simp [h1]
 ·by_cases h2:y<x <;> simp [h1,h2]
theorem or_eq (K:Nat) (hK:10≤K) (a b c:Int):cmp_Or_int K [a,b,c]=some (if a≠0 then a else if b≠0 then b else c):=by
 obtain ⟨m,rfl⟩:∃ m,K=m+4:=⟨K-4,by omega⟩
 have r0:rd [a,b,c] 0=a:=rfl
 have r1:rd [a,b,c] 1=b:=rfl
 have r2:rd [a,b,c] 2=c:=rfl
 have l3:(([a,b,c]:List Int).length:Int)=3:=rfl
 have z0:∀ q n,cmp_Or_int.l0 q [a,b,c] (n+1) 0=if a≠0 then some (.inr a) else cmp_Or_int.l0 q [a,b,c] n 1:=fun q n=>by
  simp only [cmp_Or_int.l0]
  rw [l3,if_pos (show (0:Int)<3 by omega),if_pos (show (0:Int)≤0 by omega),r0,wr (a:=0+1) (by omega) (by omega)];rfl
 have z1:∀ q n,cmp_Or_int.l0 q [a,b,c] (n+1) 1=if b≠0 then some (.inr b) else cmp_Or_int.l0 q [a,b,c] n 2:=fun q n=>by
  simp only [cmp_Or_int.l0]
  rw [l3,if_pos (show (1:Int)<3 by omega),if_pos (show (0:Int)≤1 by omega),r1,wr (a:=1+1) (by omega) (by omega)];rfl
 have z2:∀ q n,cmp_Or_int.l0 q [a,b,c] (n+1) 2=if c≠0 then some (.inr c) else cmp_Or_int.l0 q [a,b,c] n 3:=fun q n=>by
  simp only [cmp_Or_int.l0]
  rw [l3,if_pos (show (2:Int)<3 by omega),if_pos (show (0:Int)≤2 by omega),r2,wr (a:=2+1) (by omega) (by omega)];rfl
 have z3:∀ q n,cmp_Or_int.l0 q [a,b,c] (n+1) 3=some (.inl 3):=fun q n=>by
  simp only [cmp_Or_int.l0]
  rw [l3,if_neg (show ¬ (3:Int)<3 by omega)]
 unfold cmp_Or_int
 rw [z0 (m+4) (m+3)]
 by_cases ha:a=0
 ·rw [if_neg (show ¬ a≠0 from fun h=>h ha),if_neg (show ¬ a≠0 from fun h=>h ha),z1 (m+4) (m+2)]
  by_cases hb:b=0
  ·rw [if_neg (show ¬ b≠0 from fun h=>h hb),if_neg (show ¬ b≠0 from fun h=>h hb),z2 (m+4) (m+1)]
   by_cases hc:c=0
   ·rw [if_neg (show ¬ c≠0 from fun h=>h hc),z3 (m+4) m,hc];rfl
   ·rw [if_pos hc];rfl
  ·rw [if_pos hb,if_pos hb];rfl
 ·rw [if_pos ha,if_pos ha];rfl
theorem rowP_eq (K:Nat) (hK:10≤K) (a b:Place):L9 K a b=some (rowP a b):=by
 unfold L9 rowP
 rw [compare_eq,Option.bind_some,compare_eq,Option.bind_some,compare_eq,Option.bind_some,or_eq K hK,Option.bind_some]
 cases a with | mk a1 a2 a3=>cases b with | mk b1 b2 b3 =>
 simp only
 by_cases h1:a1<b1
 ·simp [h1]
 by_cases h2:b1<a1
 ·simp [h1,h2]
 by_cases h3:a2<b2
 ·simp [h1,h2,h3]
 by_cases h4:b2<a2
 ·simp [h1,h2,h3,h4]
 simp [h1,h2,h3,h4]
theorem rowP_lt (a b:Place):ltOf rowP a b=true↔a.Rule<b.Rule∨(a.Rule=b.Rule∧(a.Conj<b.Conj∨(a.Conj=b.Conj∧a.Pos<b.Pos))):=by
 unfold ltOf rowP
 rw [decide_eq_true_iff]
 cases a with | mk a1 a2 a3=>cases b with | mk b1 b2 b3 =>
 simp only
 by_cases h1:a1<b1
 ·simp [h1]
 by_cases h2:b1<a1
 ·simp [h1,h2];omega
 have e1:a1=b1:=by omega
 by_cases h3:a2<b2
 ·simp [h1,h2,h3,e1]
 by_cases h4:b2<a2
 ·simp [h1,h2,h3,h4,e1];omega
 have e2:a2=b2:=by omega
 by_cases h5:a3<b3
 ·simp [h1,h2,h3,h4,h5,e1,e2]
 by_cases h6:b3<a3
 ·simp [h1,h2,h3,h4,h5,h6,e1,e2]
 simp [h1,h2,h3,h4,h5,h6,e1,e2]
theorem rowP_nlt (a b:Place):ltOf rowP a b=false↔¬ (a.Rule<b.Rule∨(a.Rule=b.Rule∧(a.Conj<b.Conj∨(a.Conj=b.Conj∧a.Pos<b.Pos)))):=by
 rw [← rowP_lt,Bool.not_eq_true]
theorem rowP_swo:SWO (ltOf rowP) where
 irrefl x:=by rw [rowP_nlt];omega
 trans x y z h1 h2:=by rw [rowP_lt] at *;omega
 ntrans x y z h1 h2:=by rw [rowP_nlt] at *;omega
theorem rowP_anti (x y:Place) (h1:ltOf rowP x y=false) (h2:ltOf rowP y x=false):x=y:=by
 rw [rowP_nlt] at *
 cases x with | mk a1 a2 a3=>cases y with | mk b1 b2 b3 =>
 simp only [Place.mk.injEq] at *
 omega
end Go.Proofs.Ytgmnohjaciemmaa

