import Derived.Calls
import Derived.Laws.AppendOwn
import Derived.Laws.MakeOwn
import Derived.Below
import Derived.WalkKit
import Derived.KernelRfl
import Derived.Orders
import Derived.IntWalk
import Derived.Laws.CopyRow
import Derived.Laws.OwnMore
namespace Go.Proofs.Ytokccimmgilciaa
namespace S
open Go.RowKit
theorem ask_drawn {α:Type} (a:Ask α):∀ w:World,w.drawn≤(w.ask a).2.drawn:=by
 induction a with
 | done a=>intro w;exact Nat.le_refl _
 | ask what range k ih =>
  intro w
  simp only [World.ask]
  split
  ·exact ih _ w
  ·exact Nat.le_trans (Nat.le_succ _) (ih _ { w with drawn:=w.drawn+1 })
theorem sys_drawn (w:World) (c:Sys):w.drawn≤(w.sys c).2.drawn:=by
 unfold World.sys
 have:=ask_drawn (Kernel.perform c w.os) w
 split
 ·exact Nat.le_refl _
 ·rename_i h;rw [h] at this;exact this
theorem viewStore_drawn (p:Program) (w:World) (a:Addr) (u:TypeId) (k:Addr) (v:Value) (b:Bool) (r:World×List Addr) (h:w.viewStore p a u k v b = .ok r):r.1.drawn=w.drawn:=by
 unfold World.viewStore at h
 simp only [bind,Except.bind,pure,Except.pure] at h
 repeat' split at h
 all_goals first | cases h;done | (cases h;rfl) | skip
theorem farStore_drawn (p:Program) (w:World) (a:Addr) (v:Value) (b:Bool) (r:World×List Addr) (h:w.farStore p a v b = .ok r):r.1.drawn=w.drawn:=by
 unfold World.farStore at h
 split at h
 ·split at h
  ·rename_i hr;cases h;exact viewStore_drawn p w _ _ _ _ _ _ hr
  ·cases h
 ·cases h
theorem freeze_drawn (w:World) (a:Addr) (n:Nat):(w.freeze a n).drawn=w.drawn:=by unfold World.freeze;split <;> rfl
theorem run_drawn {P:Program} {α:Type} (s:Sem α):∀ {w w':World} {v:α},s.run P w = .ok v w'→w.drawn≤w'.drawn:=by
 induction s with
 | pure a=>intro w w' v h;simp only [Sem.run] at h;cases h;exact Nat.le_refl _
 | load m a k ih =>
  intro w w' v h;simp only [Sem.run] at h
  split at h
  ·exact ih _ h
  ·split at h
   ·exact ih _ h
   ·cases h
 | store m a u k ih =>
  intro w w' v h
  have key:(match w.cell? a with
    | some _=>if w.frozen? a then (.halt (.unsupported (.unsafePointer "a write to bytes that a string shares")) w:Result _) else k.run P (w.setCell a u)
    | none=>match w.farStore P a u (m == Mode.atomic) with
     | .ok (w,_)=>k.run P w
     | .error h=>.halt h w) = .ok v w':=by
   cases u <;> simp only [Sem.run] at h <;> first | exact h | cases h
  split at key
  ·split at key
   ·cases key
   ·have h2:=ih key;exact h2
  ·split at key
   ·rename_i hr
    have h2:=ih key
    have h3:=farStore_drawn _ _ _ _ _ _ hr
    simp only at h3
    omega
   ·cases key
 | new o k ih=>intro w w' v h;simp only [Sem.run] at h;have h2:=ih _ h;exact h2
 | shape r k ih=>intro w w' v h;simp only [Sem.run] at h;exact ih _ h
 | freeze a n k ih=>intro w w' v h;simp only [Sem.run] at h;have:=ih h;rw [freeze_drawn] at this;exact this
 | frozen a k ih=>intro w w' v h;simp only [Sem.run] at h;exact ih _ h
 | getObj r k ih =>
  intro w w' v h;simp only [Sem.run] at h
  split at h
  ·cases h
  ·exact ih _ h
  ·cases h
 | setObj r o k ih =>
  intro w w' v h;simp only [Sem.run] at h
  split at h
  ·cases h
  ·have h2:=ih h;exact h2
  ·cases h
 | choose q k ih =>
  intro w w' v h;simp only [Sem.run] at h
  split at h
  ·exact ih _ h
  ·exact Nat.le_trans (Nat.le_succ _) (ih _ h)
 | sys c k ih=>intro w w' v h;simp only [Sem.run] at h;exact Nat.le_trans (sys_drawn w c) (ih _ h)
 | program k ih=>intro w w' v h;simp only [Sem.run] at h;exact ih _ h
 | mark m k ih=>intro w w' v h;simp only [Sem.run] at h;exact ih h
 | halt h'=>intro w w' v h;simp only [Sem.run] at h;cases h
theorem le_ {a b:Nat} (h:Nat.ble a b=true):a≤b:=Nat.le_of_ble_eq_true h
def Keep (Z:Nat→Prop) (w w':World):Prop:=∀ b,Z b→w'.heap[b]?=w.heap[b]?
theorem Keep.refl (Z:Nat→Prop) (w:World):Keep Z w w:=fun _ _=>rfl
theorem Keep.trans {Z:Nat→Prop} {a b c:World} (h:Keep Z a b) (k:Keep Z b c):Keep Z a c:=fun i hi=>(k i hi).trans (h i hi)
theorem Keep.cell {Z:Nat→Prop} {w w':World} (h:Keep Z w w') {a:Addr} (ha:Z a.block):w'.cell? a=w.cell? a:=World.cell?_of_block (h _ ha)
structure AV where
 p:(Nat→Prop)→World→Value→Prop
 st:∀ {Z Z':Nat→Prop} {w w':World} {v:Value},(∀ b,Z b→Z' b)→Keep Z w w'→p Z w v→p Z' w' v
structure Res where
 h:(Nat→Prop)→World→(Nat→Prop)→Prop
 st:∀ {Z Z' F:Nat→Prop} {w w':World},(∀ b,Z b→Z' b)→Keep (fun b=>Z b∨F b) w w'→h Z w F→h Z' w' F
abbrev Fr:=List (Nat×AV)
def look:Fr→Nat→Option AV
 | [],_=>none
 | (t,a)::l,u=>bif t == u then some a else look l u
def FrOk (fr:Fr) (Z:Nat→Prop) (w:World) (tmps:Array Value):Prop:=∀ t a,look fr t=some a→a.p Z w (tmps.getD t undef)
def HAll:List Res→(Nat→Prop)→World→(Nat→Prop)→Prop
 | [],_,_,_=>True
 | r::rs,Z,w,F=>∃ F1 F2,r.h Z w F1∧HAll rs Z w F2∧(∀ b,F1 b→F b∧¬ F2 b)∧(∀ b,F2 b→F b)
theorem HAll.st {H:List Res}:∀ {Z Z' F:Nat→Prop} {w w':World},(∀ b,Z b→Z' b)→Keep (fun b=>Z b∨F b) w w'→HAll H Z w F→HAll H Z' w' F:=by
 induction H with
 | nil=>intros;trivial
 | cons r rs ih =>
  rintro Z Z' F w w' hz hk ⟨F1,F2,h1,h2,d1,d2⟩
  exact ⟨F1,F2,r.st hz (fun b hb=>hk b (hb.imp id fun x=>(d1 b x).1)) h1,ih hz (fun b hb=>hk b (hb.imp id (d2 b))) h2,d1,d2⟩
theorem HAll.wide {H:List Res} {Z F F':Nat→Prop} {w:World} (hf:∀ b,F b→F' b) (h:HAll H Z w F):HAll H Z w F':=by
 cases H with
 | nil=>trivial
 | cons r rs =>
  obtain ⟨F1,F2,h1,h2,d1,d2⟩:=h
  exact ⟨F1,F2,h1,h2,fun b hb=>⟨hf b (d1 b hb).1,(d1 b hb).2⟩,fun b hb=>hf b (d2 b hb)⟩
structure Base (w0 w:World) (F0:Nat→Prop):Prop where
 os:w.os=w0.os
 tape:w.tape=w0.tape
 output:w.output=w0.output
 drawn:w0.drawn≤w.drawn
 size:w0.heap.size≤w.heap.size
 keep:∀ b,b<w0.heap.size→¬ F0 b→w.heap[b]?=w0.heap[b]?
theorem Base.refl (w:World) (F0:Nat→Prop):Base w w F0:=⟨rfl,rfl,rfl,Nat.le_refl _,Nat.le_refl _,fun _ _ _=>rfl⟩
structure Inv (w0 w:World) (F0 Z0 F Z:Nat→Prop) (H:List Res):Prop where
 base:Base w0 w F0
 z0:∀ b,Z0 b→Z b
 zin:∀ b,Z b→b<w.heap.size∧(Z0 b∨F0 b∨w0.heap.size≤b)
 fin:∀ b,F b→b<w.heap.size∧(F0 b∨w0.heap.size≤b)∧¬ Z b
 res:HAll H Z w F
structure Step (w w':World) (F1:Nat→Prop):Prop where
 os:w'.os=w.os
 tape:w'.tape=w.tape
 output:w'.output=w.output
 drawn:w.drawn≤w'.drawn
 size:w.heap.size≤w'.heap.size
 keep:∀ b,b<w.heap.size→¬ F1 b→w'.heap[b]?=w.heap[b]?
theorem Step.refl (w:World) (F1:Nat→Prop):Step w w F1:=⟨rfl,rfl,rfl,Nat.le_refl _,Nat.le_refl _,fun _ _ _=>rfl⟩
theorem Step.alloc (w:World) (o:Obj) (F1:Nat→Prop):Step w (w.alloc o) F1:=⟨rfl,rfl,rfl,Nat.le_refl _,by simp,fun b hb _=>Below.heap_alloc w o b hb⟩
theorem Step.set (w:World) (a:Addr) (u:Value) (F1:Nat→Prop) (h:F1 a.block):Step w (w.setCell a u) F1 :=
 ⟨rfl,rfl,rfl,Nat.le_refl _,by simp [World.setCell],fun b _ hf=>Below.heap_setCell w a u b (fun e=>hf (e ▸ h))⟩
theorem Step.of_grown {w w':World} {row:Option Nat} (h:w.grownBy w' row) (hd:w.drawn≤w'.drawn) (F1:Nat→Prop) (hr:∀ k,row=some k→F1 k):Step w w' F1 :=
 ⟨h.os,h.tape,h.output,hd,h.size,fun b hb hf=>h.block b hb (fun e=>hf (hr b e.symm))⟩
theorem Step.mono {w w':World} {F1 F2:Nat→Prop} (h:Step w w' F1) (hf:∀ b,F1 b→F2 b):Step w w' F2:=⟨h.os,h.tape,h.output,h.drawn,h.size,fun b hb hn=>h.keep b hb (fun x=>hn (hf b x))⟩
theorem Step.drew (w:World) (F1:Nat→Prop):Step w { w with drawn:=w.drawn+1 } F1:=⟨rfl,rfl,rfl,Nat.le_succ _,Nat.le_refl _,fun _ _ _=>rfl⟩
theorem Inv.base_step {w0 w w':World} {F0 Z0 F Z F1:Nat→Prop} {H:List Res} (h:Inv w0 w F0 Z0 F Z H) (s:Step w w' F1) (hf:∀ b,F1 b→F b):Base w0 w' F0 :=
 ⟨s.os.trans h.base.os,s.tape.trans h.base.tape,s.output.trans h.base.output,Nat.le_trans h.base.drawn s.drawn,Nat.le_trans h.base.size s.size,fun b hb hn=>by
  rw [s.keep b (Nat.lt_of_lt_of_le hb h.base.size) (fun x=>?_),h.base.keep b hb hn]
  rcases (h.fin b (hf b x)).2.1 with y | y
  ·exact hn y
  ·omega⟩
theorem Inv.keepZ {w0 w w':World} {F0 Z0 F Z F1:Nat→Prop} {H:List Res} (h:Inv w0 w F0 Z0 F Z H) (s:Step w w' F1) (hf:∀ b,F1 b→F b):Keep Z w w':=fun b hb =>
 s.keep b (h.zin b hb).1 (fun x=>(h.fin b (hf b x)).2.2 hb)
theorem Step.keep' {w0 w w':World} {F0 Z0 F Z:Nat→Prop} {H:List Res} (s:Step w w' (fun _=>False)) (h:Inv w0 w F0 Z0 F Z H):Keep Z w w':=h.keepZ s (fun _ x=>x.elim)
theorem Inv.step {w0 w w':World} {F0 Z0 F Z F1 F' Z':Nat→Prop} {H H':List Res} (h:Inv w0 w F0 Z0 F Z H) (s:Step w w' F1) (hf:∀ b,F1 b→F b)
  (hz:∀ b,Z b→Z' b) (hz':∀ b,Z' b→Z b∨F b∨(w.heap.size≤b∧b<w'.heap.size)) (hF:∀ b,F' b→(F b∨(w.heap.size≤b∧b<w'.heap.size))∧¬ Z' b) (hr:HAll H' Z' w' F'):Inv w0 w' F0 Z0 F' Z' H':=by
 refine ⟨h.base_step s hf,fun b hb=>hz b (h.z0 b hb),fun b hb=>?_,fun b hb=>?_,hr⟩
 ·rcases hz' b hb with x | x | x
  ·exact ⟨Nat.lt_of_lt_of_le (h.zin b x).1 s.size,(h.zin b x).2⟩
  ·exact ⟨Nat.lt_of_lt_of_le (h.fin b x).1 s.size,(h.fin b x).2.1.elim (fun y=>.inr (.inl y)) (fun y=>.inr (.inr y))⟩
  ·exact ⟨x.2,.inr (.inr (Nat.le_trans h.base.size x.1))⟩
 ·obtain ⟨x,hn⟩:=hF b hb
  rcases x with x | x
  ·exact ⟨Nat.lt_of_lt_of_le (h.fin b x).1 s.size,(h.fin b x).2.1,hn⟩
  ·exact ⟨x.2,.inr (Nat.le_trans h.base.size x.1),hn⟩
theorem Inv.quiet {w0 w w':World} {F0 Z0 F Z Z':Nat→Prop} {H:List Res} (h:Inv w0 w F0 Z0 F Z H) (s:Step w w' (fun _=>False))
  (hz:∀ b,Z b→Z' b) (hz':∀ b,Z' b→Z b∨(w.heap.size≤b∧b<w'.heap.size)):Inv w0 w' F0 Z0 F Z' H :=
 h.step s (fun _ x=>x.elim) hz (fun b hb=>(hz' b hb).imp id .inr) (fun b hb=>⟨.inl hb,fun x=>by
   rcases hz' b x with y | y
   ·exact (h.fin b hb).2.2 y
   ·have:=(h.fin b hb).1;omega⟩)
  (h.res.st hz (fun b hb=>s.keep b (hb.elim (fun x=>(h.zin b x).1) (fun x=>(h.fin b x).1)) id))
theorem FrOk.st {fr:Fr} {Z Z':Nat→Prop} {w w':World} {tmps:Array Value} (h:FrOk fr Z w tmps) (hz:∀ b,Z b→Z' b) (hk:Keep Z w w'):FrOk fr Z' w' tmps:=fun t a ht=>a.st hz hk (h t a ht)
theorem getD_set (tmps:Array Value) (d t:Nat) (v:Value) (hd:d<tmps.size):(tmps.setIfInBounds d v).getD t undef=if d=t then v else tmps.getD t undef:=by
 simp only [Array.getD_eq_getD_getElem?,Array.getElem?_setIfInBounds]
 by_cases h:d=t
 ·subst h;simp [hd]
 ·simp [h]
theorem FrOk.put {fr:Fr} {Z:Nat→Prop} {w:World} {tmps:Array Value} {d:Nat} {v:Value} {av:AV} (h:FrOk fr Z w tmps) (hd:d<tmps.size) (hv:av.p Z w v):FrOk ((d,av)::fr) Z w (tmps.setIfInBounds d v):=by
 intro t a ht
 simp only [look] at ht
 rw [getD_set _ _ _ _ hd]
 by_cases e:d=t
 ·subst e;simp at ht;subst ht;simpa using hv
 ·have:(d == t)=false:=by simpa using e
  rw [this] at ht;simp at ht
  simp only [e,if_false];exact h t a ht
def Run (P:Program) (f:FuncId) (todo:List Item) (tmps:Array Value) (w:World) (R:Value→World→Prop):Prop :=
 ∀ (b:Frame) (cs:List Frame),b.fn=f→b.kind = .normal→∃ v w' fr,R v w'∧Steps P (lone (b.at ⟨tmps,[]⟩ todo) cs w) (lone fr cs w')∧fr.fn=f∧fr.leaving P w' (.returned v)
section
variable {P:Program} {f:FuncId} {k:List Item} {tmps:Array Value} {w:World} {R:Value→World→Prop}
theorem Run.head {todo todo':List Item} {tmps':Array Value} {w':World} (h:Run P f todo' tmps' w' R)
  (s:∀ (b:Frame) (cs:List Frame),b.kind = .normal→Steps P (lone (b.at ⟨tmps,[]⟩ todo) cs w) (lone (b.at ⟨tmps',[]⟩ todo') cs w')):Run P f todo tmps w R:=by
 intro b cs hb hk
 obtain ⟨v,w'',fr,r,st,x⟩:=h b cs hb hk
 exact ⟨v,w'',fr,r,Steps.trans (s b cs hk) st,x⟩
theorem Run.mono {todo:List Item} {R':Value→World→Prop} (h:Run P f todo tmps w R) (hr:∀ v w',R v w'→R' v w'):Run P f todo tmps w R':=by
 intro b cs hb hk
 obtain ⟨v,w'',fr,r,x⟩:=h b cs hb hk
 exact ⟨v,w'',fr,hr _ _ r,x⟩
theorem Run.seq {x y:Code} (h:Run P f (.code x :: .code y::k) tmps w R):Run P f (.code (.seq x y)::k) tmps w R:=h.head fun _ _ _=>.one step_seq
theorem Run.skip (h:Run P f k tmps w R):Run P f (.code .skip::k) tmps w R:=h.head fun _ _ _=>.one step_skip
theorem Run.block {id:Nat} {c:Code} (h:Run P f (.code c :: .inBlock id::k) tmps w R):Run P f (.code (.block id c)::k) tmps w R:=h.head fun _ _ _=>.one step_block
theorem Run.inBlock {id:Nat} (h:Run P f k tmps w R):Run P f (.inBlock id::k) tmps w R:=h.head fun _ _ _=>.one step_inBlock
theorem Run.loop {c:Code} (h:Run P f (.code c :: .inLoop c::k) tmps w R):Run P f (.code (.loop c)::k) tmps w R:=h.head fun _ _ _=>.one step_loop
theorem Run.inLoop {c:Code} (h:Run P f (.code c :: .inLoop c::k) tmps w R):Run P f (.inLoop c::k) tmps w R:=h.head fun _ _ _=>.one step_inLoop
theorem Run.exit {id:Nat} {k':List Item} (he:exitTo id k=some k') (h:Run P f k' tmps w R):Run P f (.code (.exit id)::k) tmps w R:=h.head fun _ _ _=>.one (step_exit he)
theorem Run.cond {c:Operand} {x y:Code} {t:Bool} (hc:(⟨tmps,[]⟩:Act).eval c = .bool t) (h:Run P f (.code (if t then x else y)::k) tmps w R):Run P f (.code (.cond c x y)::k) tmps w R :=
 h.head fun _ _ _=>.one (step_cond hc)
theorem Run.region {id:Nat} {ops:Array Oper} (h:Run P f (.inRegion ops (List.range ops.size)::k) tmps w R):Run P f (.code (.region id ops false)::k) tmps w R:=h.head fun _ _ _=>.one step_region
theorem Run.regionDraw {id:Nat} {ops:Array Oper} (h:∀ t,Run P f (.inRegion ops (Region.schedule (P.follows .mixedOrders) ops t)::k) tmps { w with drawn:=w.drawn+1 } R):Run P f (.code (.region id ops true)::k) tmps w R:=by
 intro b cs hb hk
 obtain ⟨v,w'',fr,r,st,x⟩:=h (w.tape w.drawn (.order b.fn id)) b cs hb hk
 exact ⟨v,w'',fr,r,.head step_region_draw st,x⟩
theorem Run.regionEnd {ops:Array Oper} (h:Run P f k tmps w R):Run P f (.inRegion ops []::k) tmps w R:=h.head fun _ _ _=>.one step_region_end
theorem put_act (a:Array Value) (d:Option Tmp) (v:Value):(⟨a,[]⟩:Act).put d v=⟨match d with | some d=>a.setIfInBounds d v | none=>a,[]⟩:=by cases d <;> rfl
def putT (a:Array Value):Option Tmp→Value→Array Value
 | some d,v=>a.setIfInBounds d v
 | none,_=>a
theorem Run.value {ops:Array Oper} {i:Nat} {is:List Nat} {o:Oper} {v:Value} {w':World} (ho:ops[i]?=some o) (hw:Region.wanted o (yielded ops tmps)=true)
  (hr:(execOp (⟨tmps,[]⟩:Act).eval o).run P w = .ok (.value v) w') (h:Run P f (.inRegion ops is::k) (putT tmps o.dst v) w' R):Run P f (.inRegion ops (i::is)::k) tmps w R:=by
 refine h.head fun b cs hk=>.one (step_lone_go ?_)
 have hg:=stepG_op (P:=P) (b:=b) (a:=⟨tmps,[]⟩) (k:=k) (cs:=cs) (w:=w) (rest:=is) ho hw
 have hfin:(b.at ⟨tmps,[]⟩ (.inRegion ops (i::is)::k)).finish v=b.at ⟨putT tmps o.dst v,[]⟩ (.inRegion ops is::k):=by
  rw [Frame.finish_at,ho];simp only [Option.bind_some,put_act];cases o.dst <;> rfl
 rw [hg,← hfin];simp [stepG.apply,hr]
theorem Run.skipped {ops:Array Oper} {i:Nat} {is:List Nat} {o:Oper} {w':World} (ho:ops[i]?=some o) (hw:Region.wanted o (yielded ops tmps)=true)
  (hr:(execOp (⟨tmps,[]⟩:Act).eval o).run P w = .ok .skip w') (h:Run P f (.inRegion ops is::k) (putT tmps o.dst undef) w' R):Run P f (.inRegion ops (i::is)::k) tmps w R:=by
 refine h.head fun b cs hk=>.one (step_lone_go ?_)
 have hg:=stepG_op (P:=P) (b:=b) (a:=⟨tmps,[]⟩) (k:=k) (cs:=cs) (w:=w) (rest:=is) ho hw
 have hfin:(b.at ⟨tmps,[]⟩ (.inRegion ops (i::is)::k)).finish undef=b.at ⟨putT tmps o.dst undef,[]⟩ (.inRegion ops is::k):=by
  rw [Frame.finish_at,ho];simp only [Option.bind_some,put_act];cases o.dst <;> rfl
 rw [hg,← hfin];simp [stepG.apply,hr]
theorem Run.unwanted {ops:Array Oper} {i:Nat} {is:List Nat} {o:Oper} (ho:ops[i]?=some o) (hw:Region.wanted o (yielded ops tmps)=false)
  (h:Run P f (.inRegion ops is::k) (putT tmps o.dst undef) w R):Run P f (.inRegion ops (i::is)::k) tmps w R:=by
 refine h.head fun b cs hk=>.one ?_
 have hs:=step_op_skip (P:=P) (b:=b) (a:=⟨tmps,[]⟩) (k:=k) (cs:=cs) (w:=w) (ops:=ops) (i:=i) (rest:=is) (by simp [ho,hw])
 simp only [ho,Option.bind_some,put_act] at hs
 rw [hs];cases o.dst <;> rfl
theorem Run.enter {ops:Array Oper} {i:Nat} {is:List Nat} {o:Oper} {g:FuncId} {args:Array Value} {w':World} {R1:Ending→World→Prop} (ho:ops[i]?=some o) (hw:Region.wanted o (yielded ops tmps)=true)
  (hr:(execOp (⟨tmps,[]⟩:Act).eval o).run P w = .ok (.enter g args) w') (hc:Calls P g args w' R1)
  (h:∀ e w'',R1 e w''→∃ v,e = .returned v∧Run P f (.inRegion ops is::k) (putT tmps o.dst v) w'' R):Run P f (.inRegion ops (i::is)::k) tmps w R:=by
 intro b cs hb hk
 have hg:=stepG_op (P:=P) (b:=b) (a:=⟨tmps,[]⟩) (k:=k) (cs:=cs) (w:=w) (rest:=is) ho hw
 have hfin:∀ v,(b.at ⟨tmps,[]⟩ (.inRegion ops (i::is)::k)).finish v=b.at ⟨putT tmps o.dst v,[]⟩ (.inRegion ops is::k):=by
  intro v;rw [Frame.finish_at,ho];simp only [Option.bind_some,put_act];cases o.dst <;> rfl
 obtain ⟨e,w'',fr,hR,hsteps,hfn,hleave⟩:=hc (b.at ⟨tmps,[]⟩ (.inRegion ops (i::is)::k)::cs)
 have henter:step P (lone (b.at ⟨tmps,[]⟩ (.inRegion ops (i::is)::k)) cs w) = .next (lone (Frame.enter P g args .normal) (b.at ⟨tmps,[]⟩ (.inRegion ops (i::is)::k)::cs) w') :=
  step_lone_go (by rw [hg];simp [stepG.apply,hr,Frame.at])
 obtain ⟨v,rfl,hrun⟩:=h e w'' hR
 obtain ⟨v2,w3,fr2,r,st,x⟩:=hrun b cs hb hk
 refine ⟨v2,w3,fr2,r,Steps.head henter (Steps.trans hsteps (Steps.head ?_ st)),x⟩
 rw [← hfin];exact step_leave_returned hleave
theorem Run.ret {fn:Func} {v:Value} (hf:P.funcs[f]?=some fn) (hr:(results fn tmps).run P w = .ok v w) (h:R v w):Run P f (.code .ret::k) tmps w R:=by
 intro b cs hb hk
 exact ⟨v,w,_,h,.one step_ret,hb,rfl,rfl,hk,fn,by rw [← hf];exact congrArg (P.funcs[·]?) hb,hr⟩
theorem Run.fin {fn:Func} {v:Value} (hf:P.funcs[f]?=some fn) (hr:(results fn tmps).run P w = .ok v w) (h:R v w):Run P f [] tmps w R:=by
 intro b cs hb hk
 exact ⟨v,w,_,h,.one step_end,hb,rfl,rfl,hk,fn,by rw [← hf];exact congrArg (P.funcs[·]?) hb,hr⟩
theorem Run.calls {fn:Func} {c:Code} {args:Array Value} (hf:P.funcs[f]?=some fn) (hb:fn.body=some c)
  (h:Run P f [.code c] (args++Array.replicate (fn.ntmps-args.size) undef) w R):Calls P f args w fun e w'=>∃ v,e = .returned v∧R v w':=by
 intro cs
 let b:Frame:={ (default:Frame) with fn:=f,kind:=.normal }
 have henter:Frame.enter P f args .normal=b.at { tmps:=args++Array.replicate (fn.ntmps-args.size) undef,defers:=[] } [.code c]:=by
  simp [Frame.enter,Frame.at,hf,hb,b]
 obtain ⟨v,w',fr,r,st,hfn,hl⟩:=h b cs rfl rfl
 rw [← henter] at st
 exact ⟨.returned v,w',fr,⟨v,rfl,r⟩,st,hfn,hl⟩
end
def Done (w0:World) (F0 Z0:Nat→Prop) (K:AV→List Res→Prop) (v:Value) (w':World):Prop:=∃ F Z av H,K av H∧Inv w0 w' F0 Z0 F Z H∧av.p Z w' v
def Sim (P:Program) (f:FuncId) (n:Nat) (todo:List Item) (fr:Fr) (H:List Res) {ρ R:Type} (x:Option ρ) (X:ρ→Option R) (K:R→AV→List Res→Prop):Prop :=
 ∀ r,x.bind X=some r→∀ (w0:World) (F0 Z0:Nat→Prop) (w:World) (F Z:Nat→Prop) (tmps:Array Value),tmps.size=n→Inv w0 w F0 Z0 F Z H→FrOk fr Z w tmps→Run P f todo tmps w (Done w0 F0 Z0 (K r))
inductive AllP (Z:Nat→Prop) (w:World):List AV→List Value→Prop
 | nil:AllP Z w [] []
 | cons {a:AV} {v:Value} {aS:List AV} {vs:List Value}:a.p Z w v→AllP Z w aS vs→AllP Z w (a::aS) (v::vs)
def Spec (P:Program) (f:FuncId) (avs:List AV) (H:List Res) (K:AV→List Res→Prop):Prop :=
 ∀ (w:World) (F Z:Nat→Prop) (vs:List Value),AllP Z w avs vs→Inv w w F Z F Z H→Calls P f vs.toArray w fun e w'=>∃ v,e = .returned v∧Done w F Z K v w'
def Pure (P:Program) (f:FuncId) (avs:List AV) {R:Type} (x:Option R) (e:R→AV):Prop:=∀ r,x=some r→Spec P f avs [] fun a H=>a=e r∧H=[]
def frOf:Nat→List AV→Fr
 | _,[]=>[]
 | i,a::aS=>(i,a)::frOf (i+1) aS
theorem frOf_ok {Z:Nat→Prop} {w:World} {avs:List AV} {vs:List Value} (h:AllP Z w avs vs):∀ (i:Nat) (tmps:Array Value),(∀ j v,vs[j]?=some v→tmps.getD (i+j) undef=v)→FrOk (frOf i avs) Z w tmps:=by
 induction h with
 | nil=>intro i tmps _ t a ht;simp [frOf,look] at ht
 | @cons a v aS vs ha _ ih =>
  intro i tmps hv t b ht
  simp only [frOf,look] at ht
  by_cases e:i=t
  ·subst e;simp at ht;subst ht
   have:=hv 0 v rfl;rw [Nat.add_zero] at this;rw [this];exact ha
  ·have e':(i == t)=false:=by simpa using e
   rw [e'] at ht;simp at ht
   exact ih (i+1) tmps (fun j u hj=>by have:=hv (j+1) u (by simpa using hj);rw [← this];congr 1;omega) t b ht
theorem AllP.length {Z:Nat→Prop} {w:World} {avs:List AV} {vs:List Value} (h:AllP Z w avs vs):avs.length=vs.length:=by
 induction h with
 | nil=>rfl
 | cons _ _ ih=>simp [ih]
theorem spec_of {P:Program} {f:FuncId} {fn:Func} {c:Code} {avs:List AV} {H:List Res} {R:Type} {x:Option R} {K:R→AV→List Res→Prop} (hf:P.funcs[f]?=some fn) (hb:fn.body=some c) (hn:avs.length≤fn.ntmps)
  (h:Sim P f fn.ntmps [.code c] (frOf 0 avs) H x some K):∀ r,x=some r→Spec P f avs H (K r):=by
 intro r hr w F Z vs hvs hinv
 refine Run.calls hf hb ?_
 have hl:=hvs.length
 refine h r (by simpa using hr) w F Z w F Z _ (by simp;omega) hinv (frOf_ok hvs 0 _ ?_)
 intro j v hj
 have hj':j<vs.length:=by
  rcases Nat.lt_or_ge j vs.length with h | h
  ·exact h
  ·simp [h] at hj
 simp only [Nat.zero_add,Array.getD_eq_getD_getElem?]
 rw [Array.getElem?_append_left (by simpa using hj')]
 simp [hj]
end S
namespace S
open Go.RowKit
set_option linter.unusedVariables false
def Does (P:Program) (o:Oper) (tmps:Array Value) (w:World) (R:Value→World→Prop):Prop :=
 (∃ v w',(execOp (⟨tmps,[]⟩:Act).eval o).run P w = .ok (.value v) w'∧R v w') ∨
 (∃ g args w' R1,(execOp (⟨tmps,[]⟩:Act).eval o).run P w = .ok (.enter g args) w'∧Calls P g args w' R1∧∀ e w'',R1 e w''→∃ v,e = .returned v∧R v w'')
def opTmps (o:Op):List Nat:=o.operands.toList.filterMap fun | .tmp t=>some t | _=>none
def FrOn (ts:List Nat) (fr:Fr) (Z:Nat→Prop) (w:World) (tmps:Array Value):Prop:=∀ t,t ∈ ts→∀ a,look fr t=some a→a.p Z w (tmps.getD t undef)
theorem FrOk.on {fr:Fr} {Z:Nat→Prop} {w:World} {tmps:Array Value} (h:FrOk fr Z w tmps) (ts:List Nat):FrOn ts fr Z w tmps:=fun t _ a ht=>h t a ht
def Calm (av:AV) (w:World) (Z:Nat→Prop) (v:Value) (w':World):Prop :=
 ∃ Z':Nat→Prop,(∀ b,Z b→Z' b)∧(∀ b,Z' b→Z b∨(w.heap.size≤b∧b<w'.heap.size))∧Step w w' (fun _=>False)∧av.p Z' w' v
theorem Calm.same {av:AV} {w:World} {Z:Nat→Prop} {v:Value} (h:av.p Z w v):Calm av w Z v w:=⟨Z,fun _ h=>h,fun _ h=>.inl h,Step.refl _ _,h⟩
def D (P:Program) (n:Nat) (H:List Res) (op:Op) (ty:TypeId) (fr:Fr) (av:AV):Prop :=
 ∀ (o:Oper),o.op=op→o.type=ty→∀ (w0:World) (F0 Z0:Nat→Prop) (w:World) (F Z:Nat→Prop) (tmps:Array Value),tmps.size=n→Inv w0 w F0 Z0 F Z H→FrOn (opTmps op) fr Z w tmps→Does P o tmps w (Calm av w Z)
def SimL (P:Program) (f:FuncId) (n:Nat) (ops:Array Oper) (l:List Oper) (k:List Item) (fr:Fr) (H:List Res) {ρ R:Type} (x:Option ρ) (X:ρ→Option R) (K:R→AV→List Res→Prop):Prop :=
 ∀ is:List Nat,is.map (fun i=>ops[i]?)=l.map some→Sim P f n (.inRegion ops is::k) fr H x X K
section
variable {P:Program} {f:FuncId} {n:Nat} {k:List Item} {fr:Fr} {H:List Res} {ρ R:Type} {x:Option ρ} {X:ρ→Option R} {K:R→AV→List Res→Prop}
theorem Q0 {a b:Code} (h:Sim P f n (.code a :: .code b::k) fr H x X K):Sim P f n (.code (.seq a b)::k) fr H x X K:=fun r hr w0 F0 Z0 w F Z tmps hn hi hf=>.seq (h r hr w0 F0 Z0 w F Z tmps hn hi hf)
theorem M3 (h:Sim P f n k fr H x X K):Sim P f n (.code .skip::k) fr H x X K:=fun r hr w0 F0 Z0 w F Z tmps hn hi hf=>.skip (h r hr w0 F0 Z0 w F Z tmps hn hi hf)
theorem f7 {id:Nat} {c:Code} (h:Sim P f n (.code c :: .inBlock id::k) fr H x X K):Sim P f n (.code (.block id c)::k) fr H x X K:=fun r hr w0 F0 Z0 w F Z tmps hn hi hf=>.block (h r hr w0 F0 Z0 w F Z tmps hn hi hf)
theorem P4 {id:Nat} (h:Sim P f n k fr H x X K):Sim P f n (.inBlock id::k) fr H x X K:=fun r hr w0 F0 Z0 w F Z tmps hn hi hf=>.inBlock (h r hr w0 F0 Z0 w F Z tmps hn hi hf)
theorem J5 {id:Nat} {k':List Item} (he:exitTo id k=some k') (h:Sim P f n k' fr H x X K):Sim P f n (.code (.exit id)::k) fr H x X K:=fun r hr w0 F0 Z0 w F Z tmps hn hi hf=>.exit he (h r hr w0 F0 Z0 w F Z tmps hn hi hf)
theorem sIf {p:Prop} [Decidable p] (h:p→Sim P f n k fr H x X K):Sim P f n k fr H (if p then x else none) X K:=by
 intro r hr
 by_cases hp:p
 ·rw [if_pos hp] at hr;exact h hp r hr
 ·rw [if_neg hp] at hr;cases hr
theorem vc {p:Prop} [Decidable p] {y:Option ρ} (h:p→Sim P f n k fr H x X K) (h':¬ p→Sim P f n k fr H y X K):Sim P f n k fr H (if p then x else y) X K:=by
 intro r hr
 by_cases hp:p
 ·rw [if_pos hp] at hr;exact h hp r hr
 ·rw [if_neg hp] at hr;exact h' hp r hr
theorem P8 {α:Type} {g:Option α} {y:α→Option ρ} (h:∀ v,g=some v→Sim P f n k fr H (y v) X K):Sim P f n k fr H (g.bind y) X K:=by
 intro r hr
 cases hg:g with
 | none=>rw [hg] at hr;cases hr
 | some v=>rw [hg] at hr;exact h v hg r hr
theorem t6 {ops:Array Oper} {l:List Oper} {p:Prop} [Decidable p] (h:p→SimL P f n ops l k fr H x X K):SimL P f n ops l k fr H (if p then x else none) X K:=fun is hs=>sIf fun hp=>h hp is hs
theorem Q4 {ops:Array Oper} {l:List Oper} {p:Prop} [Decidable p] {y:Option ρ} (h:p→SimL P f n ops l k fr H x X K) (h':¬ p→SimL P f n ops l k fr H y X K):SimL P f n ops l k fr H (if p then x else y) X K:=fun is hs=>vc (fun hp=>h hp is hs) (fun hp=>h' hp is hs)
theorem V1 {ops:Array Oper} {l:List Oper} {α:Type} {g:Option α} {y:α→Option ρ} (h:∀ v,g=some v→SimL P f n ops l k fr H (y v) X K):SimL P f n ops l k fr H (g.bind y) X K:=fun is hs=>P8 fun v hv=>h v hv is hs
theorem range_map (ops:Array Oper):(List.range ops.size).map (fun i=>ops[i]?)=ops.toList.map some:=by
 apply List.ext_getElem?
 intro i
 simp only [List.getElem?_map,Array.getElem?_toList]
 by_cases h:i<ops.size
 ·simp [h]
 ·simp [h]
theorem G0 {id:Nat} {ops:Array Oper} {l:List Oper} (hl:ops.toList=l) (h:SimL P f n ops l k fr H x X K):Sim P f n (.code (.region id ops false)::k) fr H x X K:=fun r hr w0 F0 Z0 w F Z tmps hn hi hf =>
 .region (h (List.range ops.size) (by rw [range_map,hl]) r hr w0 F0 Z0 w F Z tmps hn hi hf)
theorem j0 {ops:Array Oper} (h:Sim P f n k fr H x X K):SimL P f n ops [] k fr H x X K:=by
 intro is hs r hr w0 F0 Z0 w F Z tmps hn hi hf
 have:is=[]:=by simpa using hs
 subst this
 exact .regionEnd (h r hr w0 F0 Z0 w F Z tmps hn hi hf)
theorem wanted_none {ops:Array Oper} {o:Oper} {tmps:Array Value} (h:o.guard=none):Region.wanted o (yielded ops tmps)=true:=by simp [Region.wanted,h]
theorem does_run {ops:Array Oper} {o:Oper} {i:Nat} {is:List Nat} {d:Nat} {av:AV} {tmps:Array Value} {w0 w:World} {F0 Z0 F Z:Nat→Prop} {Q:Value→World→Prop} (hd:o.dst=some d) (hdn:d<n) (ho:ops[i]?=some o) (hw:Region.wanted o (yielded ops tmps)=true)
  (hn:tmps.size=n) (hi:Inv w0 w F0 Z0 F Z H) (hdo:Does P o tmps w (Calm av w Z))
  (h:∀ v w' Z',Inv w0 w' F0 Z0 F Z' H→(∀ b,Z b→Z' b)→Keep Z w w'→av.p Z' w' v→Run P f (.inRegion ops is::k) (tmps.setIfInBounds d v) w' Q):Run P f (.inRegion ops (i::is)::k) tmps w Q:=by
 rcases hdo with ⟨v,w',hr,Z',hz,hz',hs,hv⟩ | ⟨g,args,w',R1,hr,hc,hR⟩
 ·refine .value ho hw hr ?_
  rw [hd]
  exact h v w' Z' (hi.quiet hs hz hz') hz (hi.keepZ hs (fun _ x=>x.elim)) hv
 ·refine .enter ho hw hr hc fun e w'' he=>?_
  obtain ⟨v,rfl,Z',hz,hz',hs,hv⟩:=hR e w'' he
  refine ⟨v,rfl,?_⟩
  rw [hd]
  exact h v w'' Z' (hi.quiet hs hz hz') hz (hi.keepZ hs (fun _ x=>x.elim)) hv
theorem sQ {ops:Array Oper} {d:Nat} {op:Op} {ty:TypeId} {pos:String} {aft:Array Edge} {l:List Oper} {av:AV} (hD:D P n H op ty fr av) (hdn:Nat.blt d n=true) (h:SimL P f n ops l k ((d,av)::fr) H x X K) :
  SimL P f n ops (⟨some d,op,ty,pos,aft,none⟩::l) k fr H x X K:=by
 intro is hs r hr w0 F0 Z0 w F Z tmps hn hi hf
 cases is with
 | nil=>simp at hs
 | cons i is =>
  simp only [List.map_cons,List.cons.injEq] at hs
  have hdn':d<n:=by simpa [Nat.blt_eq] using hdn
  refine does_run (d:=d) rfl hdn' hs.1 (wanted_none rfl) hn hi (hD _ rfl rfl w0 F0 Z0 w F Z tmps hn hi (hf.on _)) ?_
  intro v w' Z' hi' hz hk hv
  exact h is hs.2 r hr w0 F0 Z0 w' F Z' _ (by simpa using hn) hi' ((hf.st hz hk).put (by omega) hv)
theorem yield_of {ops:Array Oper} {j d:Nat} {oj:Oper} {t:Bool} {tmps:Array Value} (hj:ops[j]?=some oj) (hd:oj.dst=some d) (hdn:d<tmps.size) (hv:tmps.getD d undef = .bool t):yielded ops tmps j=some t:=by
 have:tmps[d]?=some (.bool t):=by
  rw [Array.getD_eq_getD_getElem?] at hv
  rw [Array.getElem?_eq_getElem hdn] at hv ⊢
  simpa using hv
 simp [yielded,hj,hd,this]
def AV.any:AV:=⟨fun _ _ _=>True,fun _ _ _=>trivial⟩
def AV.lit (v:Value):AV:=⟨fun _ _ u=>u=v,fun _ _ h=>h⟩
abbrev Ai (k:IntKind) (n:Int):AV:=.lit (.int k n)
abbrev Ab (b:Bool):AV:=.lit (.bool b)
theorem sQg {ops:Array Oper} {d j dj:Nat} {oj:Oper} {t b:Bool} {op:Op} {ty:TypeId} {pos:String} {aft:Array Edge} {l:List Oper} {av:AV} (hj:ops[j]?=some oj) (hdj:oj.dst=some dj) (hl:look fr dj=some (Ab t)) (ht:t=b) (hjn:Nat.blt dj n=true)
  (hD:D P n H op ty fr av) (hdn:Nat.blt d n=true) (h:SimL P f n ops l k ((d,av)::fr) H x X K):SimL P f n ops (⟨some d,op,ty,pos,aft,some (j,b)⟩::l) k fr H x X K:=by
 intro is hs r hr w0 F0 Z0 w F Z tmps hn hi hf
 cases is with
 | nil=>simp at hs
 | cons i is =>
  simp only [List.map_cons,List.cons.injEq] at hs
  have hdn':d<n:=by simpa [Nat.blt_eq] using hdn
  have hjn':dj<n:=by simpa [Nat.blt_eq] using hjn
  have hy:=yield_of hj hdj (by omega) (hf dj _ hl)
  refine does_run (d:=d) rfl hdn' hs.1 (by simp [Region.wanted,hy,ht]) hn hi (hD _ rfl rfl w0 F0 Z0 w F Z tmps hn hi (hf.on _)) ?_
  intro v w' Z' hi' hz hk hv
  exact h is hs.2 r hr w0 F0 Z0 w' F Z' _ (by simpa using hn) hi' ((hf.st hz hk).put (by omega) hv)
theorem sQu {ops:Array Oper} {d j dj:Nat} {oj:Oper} {t b:Bool} {op:Op} {ty:TypeId} {pos:String} {aft:Array Edge} {l:List Oper} (hj:ops[j]?=some oj) (hdj:oj.dst=some dj) (hl:look fr dj=some (Ab t)) (ht:t = !b) (hjn:Nat.blt dj n=true)
  (hdn:Nat.blt d n=true) (h:SimL P f n ops l k ((d,.lit undef)::fr) H x X K):SimL P f n ops (⟨some d,op,ty,pos,aft,some (j,b)⟩::l) k fr H x X K:=by
 intro is hs r hr w0 F0 Z0 w F Z tmps hn hi hf
 cases is with
 | nil=>simp at hs
 | cons i is =>
  simp only [List.map_cons,List.cons.injEq] at hs
  have hdn':d<n:=by simpa [Nat.blt_eq] using hdn
  have hjn':dj<n:=by simpa [Nat.blt_eq] using hjn
  have hy:=yield_of hj hdj (by omega) (hf dj _ hl)
  refine .unwanted hs.1 (by subst ht;cases b <;> simp [Region.wanted,hy]) ?_
  exact h is hs.2 r hr w0 F0 Z0 w F Z _ (by simpa [putT] using hn) hi (hf.put (by omega) rfl)
theorem yield_none {ops:Array Oper} {j d:Nat} {oj:Oper} {tmps:Array Value} (hj:ops[j]?=some oj) (hd:oj.dst=some d) (hdn:d<tmps.size) (hv:tmps.getD d undef=undef):yielded ops tmps j=none:=by
 have:tmps[d]?=some undef:=by
  rw [Array.getD_eq_getD_getElem?] at hv
  rw [Array.getElem?_eq_getElem hdn] at hv ⊢
  simpa using hv
 simp [yielded,hj,hd,this,undef]
theorem sQv {ops:Array Oper} {d j dj:Nat} {oj:Oper} {b:Bool} {op:Op} {ty:TypeId} {pos:String} {aft:Array Edge} {l:List Oper} (hj:ops[j]?=some oj) (hdj:oj.dst=some dj) (hl:look fr dj=some (.lit undef)) (hjn:Nat.blt dj n=true)
  (hdn:Nat.blt d n=true) (h:SimL P f n ops l k ((d,.lit undef)::fr) H x X K):SimL P f n ops (⟨some d,op,ty,pos,aft,some (j,b)⟩::l) k fr H x X K:=by
 intro is hs r hr w0 F0 Z0 w F Z tmps hn hi hf
 cases is with
 | nil=>simp at hs
 | cons i is =>
  simp only [List.map_cons,List.cons.injEq] at hs
  have hdn':d<n:=by simpa [Nat.blt_eq] using hdn
  have hjn':dj<n:=by simpa [Nat.blt_eq] using hjn
  have hy:=yield_none hj hdj (by omega) (hf dj _ hl)
  refine .unwanted hs.1 (by simp [Region.wanted,hy]) ?_
  exact h is hs.2 r hr w0 F0 Z0 w F Z _ (by simpa [putT] using hn) hi (hf.put (by omega) rfl)
theorem L6 {c:Nat} {a b:Code} {t:Bool} (hl:look fr c=some (Ab t)) (ht:t=true) (h:Sim P f n (.code a::k) fr H x X K):Sim P f n (.code (.cond (.tmp c) a b)::k) fr H x X K:=by
 intro r hr w0 F0 Z0 w F Z tmps hn hi hf
 subst ht
 exact .cond (t:=true) (hf c _ hl) (h r hr w0 F0 Z0 w F Z tmps hn hi hf)
theorem L7 {c:Nat} {a b:Code} {t:Bool} (hl:look fr c=some (Ab t)) (ht:t=false) (h:Sim P f n (.code b::k) fr H x X K):Sim P f n (.code (.cond (.tmp c) a b)::k) fr H x X K:=by
 intro r hr w0 F0 Z0 w F Z tmps hn hi hf
 subst ht
 exact .cond (t:=false) (hf c _ hl) (h r hr w0 F0 Z0 w F Z tmps hn hi hf)
theorem P5 {c:Nat} {a b:Code} {p:Prop} [hp:Decidable p] {y:Option ρ} (hl:look fr c=some (Ab (decide p))) (h:p→Sim P f n (.code a::k) fr H x X K) (h':¬ p→Sim P f n (.code b::k) fr H y X K) :
  Sim P f n (.code (.cond (.tmp c) a b)::k) fr H (if p then x else y) X K :=
 vc (fun hp=>L6 hl (by simpa using hp) (h hp)) (fun hp=>L7 hl (by simpa using hp) (h' hp))
theorem M6 {c:Nat} {a b:Code} {t:Bool} {y:Option ρ} (hl:look fr c=some (Ab t)) (h:t=true→Sim P f n (.code a::k) fr H x X K) (h':t=false→Sim P f n (.code b::k) fr H y X K) :
  Sim P f n (.code (.cond (.tmp c) a b)::k) fr H (if t=true then x else y) X K :=
 vc (fun hp=>L6 hl hp (h hp)) (fun hp=>L7 hl (by simpa using hp) (h' (by simpa using hp)))
def thenK {ρ σ R:Type} (X':σ→Option ρ) (X:ρ→Option R):σ→Option R:=fun s=>(X' s).bind X
def brk {σ ρ:Type} (l:Option (σ ⊕ ρ)) (X':σ→Option ρ):Option ρ:=l.bind fun | .inl s=>X' s | .inr r=>some r
def brkK {σ ρ R:Type} (X':σ→Option ρ) (X:ρ→Option R):σ ⊕ ρ→Option R:=fun | .inl s=>(X' s).bind X | .inr r=>X r
def Sub:Fr→Fr→Prop
 | [],_=>True
 | (t,a)::l,fr=>look fr t=some a∧Sub l fr
theorem Sub.look {l fr:Fr} (h:Sub l fr) {t:Nat} {a:AV} (hl:look l t=some a):look fr t=some a:=by
 induction l with
 | nil=>simp [S.look] at hl
 | cons p l ih =>
  obtain ⟨u,b⟩:=p
  simp only [S.look] at hl
  by_cases e:u=t
  ·subst e;simp at hl;subst hl;exact h.1
  ·have:(u == t)=false:=by simpa using e
   rw [this] at hl;exact ih h.2 (by simpa using hl)
theorem HAll.take {H:List Res}:∀ {j:Nat} {r:Res} {Z F:Nat→Prop} {w:World},HAll H Z w F→H[j]?=some r→∃ F1 F2:Nat→Prop,r.h Z w F1∧HAll (H.eraseIdx j) Z w F2∧(∀ b,F1 b→F b∧¬ F2 b)∧(∀ b,F2 b→F b):=by
 induction H with
 | nil=>intro j r Z F w _ h;simp at h
 | cons a H ih =>
  rintro j r Z F w ⟨F1,F2,h1,h2,d1,d2⟩ hj
  cases j with
  | zero=>simp at hj;subst hj;exact ⟨F1,F2,h1,h2,d1,d2⟩
  | succ j =>
   simp at hj
   obtain ⟨G1,G2,g1,g2,e1,e2⟩:=ih h2 hj
   refine ⟨G1,fun b=>F1 b∨G2 b,g1,⟨F1,G2,h1,g2,fun b hb=>⟨.inl hb,fun hg=>(d1 b hb).2 (e2 b hg)⟩,fun b hb=>.inr hb⟩,fun b hb=>⟨d2 b (e1 b hb).1,?_⟩,fun b hb=>hb.elim (fun x=>(d1 b x).1) (fun x=>d2 b (e2 b x))⟩
   rintro (x | x)
   ·exact (d1 b x).2 (e1 b hb).1
   ·exact (e1 b hb).2 x
theorem HAll.set {H:List Res}:∀ {j:Nat} {r r':Res} {Z F:Nat→Prop} {w:World},H[j]?=some r→HAll H Z w F→∃ F1:Nat→Prop,r.h Z w F1∧(∀ b,F1 b→F b) ∧
  ∀ (Z':Nat→Prop) (w':World) (G1:Nat→Prop),(∀ b,Z b→Z' b)→Keep (fun b=>Z b∨(F b∧¬ F1 b)) w w'→r'.h Z' w' G1→(∀ b,G1 b→F1 b∨¬ F b)→HAll (H.set j r') Z' w' (fun b=>F b∨G1 b):=by
 induction H with
 | nil=>intro j r r' Z F w h;simp at h
 | cons a H ih =>
  rintro j r r' Z F w hj ⟨F1,F2,h1,h2,d1,d2⟩
  cases j with
  | zero =>
   simp at hj;subst hj
   refine ⟨F1,h1,fun b hb=>(d1 b hb).1,fun Z' w' G1 hz hk hg hG=>?_⟩
   refine ⟨G1,F2,hg,h2.st hz fun b hb=>hk b (hb.imp id fun x=>⟨d2 b x,fun y=>(d1 b y).2 x⟩),fun b hb=>⟨.inr hb,fun x=>?_⟩,fun b hb=>.inl (d2 b hb)⟩
   rcases hG b hb with y | y
   ·exact (d1 b y).2 x
   ·exact y (d2 b x)
  | succ j =>
   simp at hj
   obtain ⟨E1,e1,ee,hset⟩:=ih (r':=r') hj h2
   refine ⟨E1,e1,fun b hb=>d2 b (ee b hb),fun Z' w' G1 hz hk hg hG=>?_⟩
   have hs:=hset Z' w' G1 hz (fun b hb=>hk b (hb.imp id fun x=>⟨d2 b x.1,x.2⟩)) hg (fun b hb=>(hG b hb).imp id fun y z=>y (d2 b z))
   refine ⟨F1,fun b=>F2 b∨G1 b,a.st hz (fun b hb=>hk b (hb.imp id fun x=>⟨(d1 b x).1,fun y=>(d1 b x).2 (ee b y)⟩)) h1,hs,fun b hb=>⟨.inl (d1 b hb).1,?_⟩,fun b hb=>hb.imp (d2 b) id⟩
   rintro (y | y)
   ·exact (d1 b hb).2 y
   ·rcases hG b y with z | z
    ·exact (d1 b hb).2 (ee b z)
    ·exact z (d1 b hb).1
theorem HAll.drop {H:List Res}:∀ {Z F:Nat→Prop} {w:World} (m:Nat),HAll H Z w F→HAll (H.drop m) Z w F:=by
 induction H with
 | nil=>intro Z F w m h;simpa using h
 | cons a H ih =>
  rintro Z F w m ⟨F1,F2,h1,h2,d1,d2⟩
  cases m with
  | zero=>exact ⟨F1,F2,h1,h2,d1,d2⟩
  | succ m=>exact (ih m h2).wide d2
theorem HAll.erase {H:List Res}:∀ {Z F:Nat→Prop} {w:World} (m:Nat),HAll H Z w F→HAll (H.eraseIdx m) Z w F:=by
 induction H with
 | nil=>intro Z F w m h;simpa using h
 | cons a H ih =>
  rintro Z F w m ⟨F1,F2,h1,h2,d1,d2⟩
  cases m with
  | zero=>exact h2.wide d2
  | succ m=>exact ⟨F1,F2,h1,ih m h2,d1,d2⟩
def dropAll (H:List Res):List Nat→List Res
 | []=>H
 | j::js=>dropAll (H.eraseIdx j) js
theorem HAll.dropAll {Z F:Nat→Prop} {w:World} (js:List Nat):∀ {H:List Res},HAll H Z w F→HAll (S.dropAll H js) Z w F:=by
 induction js with
 | nil=>intro H h;exact h
 | cons j js ih=>intro H h;exact ih (h.erase j)
theorem Inv.less {w0 w:World} {F0 Z0 F Z:Nat→Prop} {H H':List Res} (h:Inv w0 w F0 Z0 F Z H) (hr:HAll H Z w F→HAll H' Z w F):Inv w0 w F0 Z0 F Z H':=⟨h.base,h.z0,h.zin,h.fin,hr h.res⟩
theorem G6 {c:Code} {id:Nat} {σ σ' γ γ':Type} {X':σ'→Option ρ} (l:Nat→σ→Option σ') (A:σ→γ→Fr) (B:σ→γ→List Res) (A':σ'→γ'→Fr) (B':σ'→γ'→List Res) {s0:σ} (g0:γ) {m:Nat} (h0:∀ s,l 0 s=none) (js:List Nat) (hs:Sub (A s0 g0) fr) (hH:S.dropAll H js=B s0 g0)
  (hx:∀ s g,Sim P f n k (A' s g) (B' s g) (X' s) X K)
  (body:∀ m s g,(∀ s' g',Sim P f n (.inLoop c :: .inBlock id::k) (A s' g') (B s' g') (l m s') (thenK X' X) K)→(∀ s' g',Sim P f n k (A' s' g') (B' s' g') (some s') (thenK X' X) K)→Sim P f n (.code c :: .inLoop c :: .inBlock id::k) (A s g) (B s g) (l (m+1) s) (thenK X' X) K) :
  Sim P f n (.code (.block id (.loop c))::k) fr H ((l m s0).bind X') X K:=by
 have key:∀ m s g,Sim P f n (.code c :: .inLoop c :: .inBlock id::k) (A s g) (B s g) (l m s) (thenK X' X) K:=by
  intro m
  induction m with
  | zero=>intro s g r hr;rw [h0] at hr;cases hr
  | succ m ih=>exact fun s g=>body m s g (fun s' g' r hr w0 F0 Z0 w F Z tmps hn hi hf=>.inLoop (ih s' g' r hr w0 F0 Z0 w F Z tmps hn hi hf)) (fun s' g' r hr=>hx s' g' r hr)
 intro r hr w0 F0 Z0 w F Z tmps hn hi hf
 refine .block (.loop (key m s0 g0 r ?_ w0 F0 Z0 w F Z tmps hn (hi.less fun h=>hH ▸ h.dropAll js) (fun t a ht=>hf t a (hs.look ht))))
 rw [← hr];cases l m s0 <;> rfl
theorem Ma {c:Code} {id:Nat} {σ σ' γ γ':Type} {X':σ'→Option ρ} (l:Nat→σ→Option (σ' ⊕ ρ)) (A:σ→γ→Fr) (B:σ→γ→List Res) (A':σ'→γ'→Fr) (B':σ'→γ'→List Res) {s0:σ} (g0:γ) {m:Nat} (h0:∀ s,l 0 s=none) (js:List Nat) (hs:Sub (A s0 g0) fr) (hH:S.dropAll H js=B s0 g0)
  (hx:∀ s g,Sim P f n k (A' s g) (B' s g) (X' s) X K)
  (body:∀ m s g,(∀ s' g',Sim P f n (.inLoop c :: .inBlock id::k) (A s' g') (B s' g') (l m s') (brkK X' X) K)→(∀ s' g',Sim P f n k (A' s' g') (B' s' g') (some (.inl s')) (brkK X' X) K)→Sim P f n (.code c :: .inLoop c :: .inBlock id::k) (A s g) (B s g) (l (m+1) s) (brkK X' X) K) :
  Sim P f n (.code (.block id (.loop c))::k) fr H (brk (l m s0) X') X K:=by
 have key:∀ m s g,Sim P f n (.code c :: .inLoop c :: .inBlock id::k) (A s g) (B s g) (l m s) (brkK X' X) K:=by
  intro m
  induction m with
  | zero=>intro s g r hr;rw [h0] at hr;cases hr
  | succ m ih=>exact fun s g=>body m s g (fun s' g' r hr w0 F0 Z0 w F Z tmps hn hi hf=>.inLoop (ih s' g' r hr w0 F0 Z0 w F Z tmps hn hi hf)) (fun s' g' r hr=>hx s' g' r hr)
 intro r hr w0 F0 Z0 w F Z tmps hn hi hf
 refine .block (.loop (key m s0 g0 r ?_ w0 F0 Z0 w F Z tmps hn (hi.less fun h=>hH ▸ h.dropAll js) (fun t a ht=>hf t a (hs.look ht))))
 rw [← hr]
 unfold brk
 cases l m s0 with
 | none=>rfl
 | some q=>cases q <;> rfl
theorem Qa {σ:Type} {q:ρ} {X':σ→Option ρ} (h:Sim P f n k fr H (some q) X K):Sim P f n k fr H (some (.inr q)) (brkK X' X) K:=fun r hr=>h r hr
theorem zb {σ γ:Type} {a:Item} {y:Option σ} {Y:σ→Option ρ} (A:σ→γ→Fr) (B:σ→γ→List Res) (h1:∀ s g,Sim P f n k (A s g) (B s g) (Y s) X K)
  (h2:(∀ s g,Sim P f n k (A s g) (B s g) (some s) (thenK Y X) K)→Sim P f n (a::k) fr H y (thenK Y X) K):Sim P f n (a::k) fr H (y.bind Y) X K:=by
 intro r hr
 refine h2 (fun s g r hr=>h1 s g r hr) r ?_
 rw [← hr]
 cases y <;> rfl
theorem qd {σ γ:Type} {a b:Item} {y:Option (σ ⊕ ρ)} {Y:σ→Option ρ} (A:σ→γ→Fr) (B:σ→γ→List Res) (h1:∀ s g,Sim P f n k (A s g) (B s g) (Y s) X K)
  (h2:(∀ s g,Sim P f n k (A s g) (B s g) (some (.inl s)) (brkK Y X) K)→Sim P f n (a::b::k) fr H y (brkK Y X) K):Sim P f n (a::b::k) fr H (brk y Y) X K:=by
 intro r hr
 refine h2 (fun s g r hr=>h1 s g r hr) r ?_
 rw [← hr]
 cases y with
 | none=>rfl
 | some q=>cases q <;> rfl
end
end S
namespace S
open Go.RowKit
set_option linter.unusedVariables false
set_option linter.unusedSimpArgs false
theorem AllP.st {Z Z':Nat→Prop} {w w':World} {aS:List AV} {vs:List Value} (hz:∀ b,Z b→Z' b) (hk:Keep Z w w') (h:AllP Z w aS vs):AllP Z' w' aS vs:=by
 induction h with
 | nil=>exact .nil
 | cons h _ ih=>exact .cons (AV.st _ hz hk h) ih
theorem AllP.get {Z:Nat→Prop} {w:World} {aS:List AV} {vs:List Value} (h:AllP Z w aS vs) {i:Nat} {a:AV} (hi:aS[i]?=some a):∃ v,vs[i]?=some v∧a.p Z w v:=by
 induction h generalizing i with
 | nil=>simp at hi
 | cons h _ ih =>
  cases i with
  | zero=>simp at hi;subst hi;exact ⟨_,rfl,h⟩
  | succ i=>simp at hi;simpa using ih hi
theorem AllP.drop {Z:Nat→Prop} {w:World} {aS:List AV} {vs:List Value} (h:AllP Z w aS vs) (i:Nat):AllP Z w (aS.drop i) (vs.drop i):=by
 induction h generalizing i with
 | nil=>simp;exact .nil
 | cons h h' ih=>cases i with
  | zero=>exact .cons h h'
  | succ i=>exact ih i
theorem AllP.take {Z:Nat→Prop} {w:World} {aS:List AV} {vs:List Value} (h:AllP Z w aS vs) (i:Nat):AllP Z w (aS.take i) (vs.take i):=by
 induction h generalizing i with
 | nil=>simp;exact .nil
 | cons h h' ih=>cases i with
  | zero=>exact .nil
  | succ i=>exact .cons h (ih i)
theorem AllP.append {Z:Nat→Prop} {w:World} {aS bs:List AV} {vs us:List Value} (h:AllP Z w aS vs) (h':AllP Z w bs us):AllP Z w (aS++bs) (vs++us):=by
 induction h with
 | nil=>exact h'
 | cons h _ ih=>exact .cons h ih
theorem AllP.set {Z:Nat→Prop} {w:World} {aS:List AV} {vs:List Value} (h:AllP Z w aS vs) {i:Nat} {a:AV} {v:Value} (hv:a.p Z w v):AllP Z w (aS.set i a) (vs.set i v):=by
 induction h generalizing i with
 | nil=>exact .nil
 | cons h h' ih=>cases i with
  | zero=>exact .cons hv h'
  | succ i=>exact .cons h ih
def AV.agg (aS:List AV):AV:=⟨fun Z w v=>∃ vs,v = .agg vs.toArray∧AllP Z w aS vs,fun hz hk h=>by obtain ⟨vs,e,h⟩:=h;exact ⟨vs,e,h.st hz hk⟩⟩
def AV.tup (aS:List AV):AV:=⟨fun Z w v=>∃ vs,v = .tuple vs.toArray∧AllP Z w aS vs,fun hz hk h=>by obtain ⟨vs,e,h⟩:=h;exact ⟨vs,e,h.st hz hk⟩⟩
def At (Z:Nat→Prop) (w:World) (a:Addr) (aS:List AV):Prop:=∃ vs,AllP Z w aS vs∧∀ j u,vs[j]?=some u→w.cell? (a.add j)=some u
theorem add_block (a:Addr) (j:Nat):(a.add j).block=a.block:=by unfold Addr.add;split <;> rfl
theorem add_add (a:Addr) (i j:Nat):(a.add i).add j=a.add (i+j):=by
 unfold Addr.add
 by_cases hi:i=0
 ·subst hi;simp
 ·by_cases hj:j=0
  ·subst hj;simp
  ·simp [hi,hj];omega
theorem At.st {Z Z':Nat→Prop} {w w':World} {a:Addr} {aS:List AV} (hz:∀ b,Z b→Z' b) (hk:Keep Z w w') (hb:Z a.block) (h:At Z w a aS):At Z' w' a aS:=by
 obtain ⟨vs,h1,h2⟩:=h
 exact ⟨vs,h1.st hz hk,fun j u hj=>by rw [hk.cell (by rw [add_block];exact hb)];exact h2 j u hj⟩
theorem At.drop {Z:Nat→Prop} {w:World} {a:Addr} {aS:List AV} (h:At Z w a aS) (i:Nat):At Z w (a.add i) (aS.drop i):=by
 obtain ⟨vs,h1,h2⟩:=h
 exact ⟨vs.drop i,h1.drop i,fun j u hj=>by rw [add_add];exact h2 (i+j) u (by simpa using hj)⟩
def AV.fptr (aS:List AV):AV:=⟨fun Z w v=>∃ a,v = .pointer (some a)∧Z a.block∧At Z w a aS,fun hz hk ⟨a,e,hb,h⟩=>⟨a,e,hz _ hb,h.st hz hk hb⟩⟩
def AV.One (a:AV):Prop:=∀ Z w v,a.p Z w v→v.oneCell'=true
def OneL:List AV→Prop
 | []=>True
 | a::aS=>a.One∧OneL aS
theorem oLit {v:Value} (h:v.oneCell'=true):(AV.lit v).One:=fun _ _ _ e=>by rw [show _=v from e];exact h
structure Co (T:Type) where
 e:T→List AV
 sz:Nat
 pos:0<sz
 len:∀ x,(e x).length=sz
 one:∀ x,OneL (e x)
def AV.fsl {T:Type} (c:Co T) (xs:List T):AV :=
 ⟨fun Z w v=>∃ A m,v = .slice A xs.length m∧xs.length≤m∧∀ i x,xs[i]?=some x→∃ a,A=some a∧Z a.block∧At Z w (a.add (i*c.sz)) (c.e x),
  fun hz hk h=>by
  obtain ⟨A,m,e1,hc,h⟩:=h
  refine ⟨A,m,e1,hc,fun i x hx=>?_⟩
  obtain ⟨a,ea,hb,h⟩:=h i x hx
  exact ⟨a,ea,hz _ hb,h.st hz hk (by rw [add_block];exact hb)⟩⟩
theorem oFsl {T:Type} {c:Co T} {xs:List T}:(AV.fsl c xs).One:=fun _ _ _ ⟨_,_,e,_⟩=>by rw [e];rfl
def rd {T:Type} [Inhabited T] (xs:List T) (i:Int):T:=xs.getD i.toNat default
theorem rd_get {T:Type} [Inhabited T] {xs:List T} {i:Int} (h0:0≤i) (h:i<xs.length):xs[i.toNat]?=some (rd xs i):=by
 unfold rd
 have:i.toNat<xs.length:=by omega
 simp [List.getD_eq_getElem?_getD,this]
def bt (s:ByteArray) (i:Int):Int:=((s.data.getD i.toNat 0).toNat:Int)
theorem bt_get {s:ByteArray} {i:Int} (h0:0≤i) (h:i<s.size):∃ b:UInt8,s[i.toNat]?=some b∧(b.toNat:Int)=bt s i:=by
 have hs:i.toNat<s.size:=by omega
 refine ⟨s[i.toNat],by simp [hs],?_⟩
 unfold bt
 have hd:i.toNat<s.data.size:=hs
 rw [Array.getD_eq_getD_getElem?,Array.getElem?_eq_getElem hd]
 rfl
def arg (fr:Fr):Operand→Option AV
 | .tmp t=>look fr t
 | .const v=>some (.lit v)
 | .func f=>some (.lit (.func (.func f) #[] #[]))
 | .global g=>some (.lit (.pointer (some ⟨g,0,none⟩)))
theorem arg_ok {op:Op} {fr:Fr} {Z:Nat→Prop} {w:World} {tmps:Array Value} (h:FrOn (opTmps op) fr Z w tmps) {x:Operand} {a:AV} (hx:arg fr x=some a) (hm:x ∈ op.operands):a.p Z w ((⟨tmps,[]⟩:Act).eval x):=by
 cases x with
 | tmp t =>
  refine h t ?_ a hx
  unfold opTmps
  rw [List.mem_filterMap]
  exact ⟨.tmp t,by simpa using hm,rfl⟩
 | const v=>simp [arg] at hx;subst hx;rfl
 | func f=>simp [arg] at hx;subst hx;rfl
 | global g=>simp [arg] at hx;subst hx;rfl
section
variable {P:Program} {n:Nat} {H:List Res} {ty t t' e:TypeId} {fr:Fr}
def Rho (op:Op) (fr:Fr) (Z:Nat→Prop) (w:World) (ρ:Operand→Value):Prop:=∀ {x:Operand} {a:AV},x ∈ op.operands→arg fr x=some a→a.p Z w (ρ x)
theorem D.of {op:Op} {av:AV} (h:∀ (o:Oper),o.op=op→o.type=ty→∀ (w:World) (Z F:Nat→Prop) (ρ:Operand→Value),HAll H Z w F→Rho op fr Z w ρ→∃ v,(execOp ρ o).run P w = .ok (.value v) w∧av.p Z w v):D P n H op ty fr av:=by
 intro o ho hty w0 F0 Z0 w F Z tmps hn hi hf
 obtain ⟨v,hr,hv⟩:=h o ho hty w Z F (⟨tmps,[]⟩:Act).eval hi.res fun hm hx=>arg_ok hf hx hm
 exact .inl ⟨v,w,hr,Calm.same hv⟩
theorem dMv {x:Operand} {a:AV} (hx:arg fr x=some a):D P n H (.move x) ty fr a :=
 .of fun o ho hty w Z F ρ _ hf=>⟨_,by simp [execOp,ho,go_sem],hf (by simp [Op.operands]) hx⟩
theorem dAs {x:Operand} {a:AV} (hx:arg fr x=some a):D P n H (.assign x) ty fr a :=
 .of fun o ho hty w Z F ρ _ hf=>⟨_,by simp [execOp,ho,go_sem],hf (by simp [Op.operands]) hx⟩
section
variable {x y:Operand} {k:IntKind} {a b:Int}
theorem cb {op:BinOp} {r:Value} (hx:arg fr x=some (Ai k a)) (hy:arg fr y=some (Ai k b)) (hr:∀ w,(binOp op t (.int k a) (.int k b)).run P w = .ok r w):D P n H (.binOp op t x y t') ty fr (.lit r) :=
 .of fun o ho hty w Z F ρ _ hf=>by
  have h1:ρ x=_:=hf (by simp [Op.operands]) hx
  have h2:ρ y=_:=hf (by simp [Op.operands]) hy
  exact ⟨r,by simp [execOp,ho,h1,h2,hr,go_sem],rfl⟩
theorem Q7 (hx:arg fr x=some (Ai k a)) (hy:arg fr y=some (Ai k b)):D P n H (.binOp .add t x y t') ty fr (Ai k (k.wrap (a+b))):=cb hx hy fun w=>by simp [go_sem,Op.intArith]
theorem vb (hx:arg fr x=some (Ai k a)) (hy:arg fr y=some (Ai k b)):D P n H (.binOp .sub t x y t') ty fr (Ai k (k.wrap (a-b))):=cb hx hy fun w=>by simp [go_sem,Op.intArith]
theorem bd (hx:arg fr x=some (Ai k a)) (hy:arg fr y=some (Ai k b)):D P n H (.binOp .mul t x y t') ty fr (Ai k (k.wrap (a*b))):=cb hx hy fun w=>by simp [go_sem,Op.intArith]
def iand (k:IntKind) (a b:Int):Int:=k.wrap ((BitVec.ofInt k.bits a &&& BitVec.ofInt k.bits b).toNat:Int)
def ior (k:IntKind) (a b:Int):Int:=k.wrap ((BitVec.ofInt k.bits a ||| BitVec.ofInt k.bits b).toNat:Int)
def ixor (k:IntKind) (a b:Int):Int:=k.wrap ((BitVec.ofInt k.bits a ^^^ BitVec.ofInt k.bits b).toNat:Int)
def ishl (k:IntKind) (a b:Int):Int:=k.wrap (a*2 ^ (min b.toNat k.bits))
def ishr (k:IntKind) (a b:Int):Int:=a.fdiv (2 ^ (min b.toNat k.bits))
theorem dAnd (hx:arg fr x=some (Ai k a)) (hy:arg fr y=some (Ai k b)):D P n H (.binOp .and t x y t') ty fr (Ai k (iand k a b)):=cb hx hy fun w=>by simp [binOp_and,Op.intBits,iand]
theorem dOr (hx:arg fr x=some (Ai k a)) (hy:arg fr y=some (Ai k b)):D P n H (.binOp .or t x y t') ty fr (Ai k (ior k a b)):=cb hx hy fun w=>by simp [binOp_or,Op.intBits,ior]
theorem Gd {j:IntKind} (hx:arg fr x=some (Ai k a)) (hy:arg fr y=some (Ai j b)) (hb:0≤b):D P n H (.binOp .shl t x y t') ty fr (Ai k (ishl k a b)) :=
 .of fun o ho hty w Z F ρ _ hf=>by
  have h1:ρ x=_:=hf (by simp [Op.operands]) hx
  have h2:ρ y=_:=hf (by simp [Op.operands]) hy
  have hb':¬ b<0:=by omega
  exact ⟨.int k (ishl k a b),by simp [execOp,ho,h1,h2,eqGuard_shl,binOp_shl,Op.shift,hb',ishl],rfl⟩
theorem Pd {j:IntKind} (hx:arg fr x=some (Ai k a)) (hy:arg fr y=some (Ai j b)) (hb:0≤b):D P n H (.binOp .shr t x y t') ty fr (Ai k (ishr k a b)) :=
 .of fun o ho hty w Z F ρ _ hf=>by
  have h1:ρ x=_:=hf (by simp [Op.operands]) hx
  have h2:ρ y=_:=hf (by simp [Op.operands]) hy
  have hb':¬ b<0:=by omega
  exact ⟨.int k (ishr k a b),by simp [execOp,ho,h1,h2,eqGuard_shr,binOp_shr,Op.shift,hb',ishr],rfl⟩
theorem dLt (hx:arg fr x=some (Ai k a)) (hy:arg fr y=some (Ai k b)):D P n H (.binOp .lss t x y t') ty fr (Ab (decide (a<b))):=cb hx hy fun w=>by simp [go_sem]
theorem dLe (hx:arg fr x=some (Ai k a)) (hy:arg fr y=some (Ai k b)):D P n H (.binOp .leq t x y t') ty fr (Ab (decide (a≤b))):=cb hx hy fun w=>by simp [go_sem]
theorem dGt (hx:arg fr x=some (Ai k a)) (hy:arg fr y=some (Ai k b)):D P n H (.binOp .gtr t x y t') ty fr (Ab (decide (b<a))):=cb hx hy fun w=>by simp [go_sem]
theorem dGe (hx:arg fr x=some (Ai k a)) (hy:arg fr y=some (Ai k b)):D P n H (.binOp .geq t x y t') ty fr (Ab (decide (b≤a))):=cb hx hy fun w=>by simp [go_sem]
theorem dEq (hx:arg fr x=some (Ai k a)) (hy:arg fr y=some (Ai k b)):D P n H (.binOp .eql t x y t') ty fr (Ab (decide (a=b))):=cb hx hy fun w=>by simp [go_sem,Bool.beq_eq_decide_eq]
theorem dNe (hx:arg fr x=some (Ai k a)) (hy:arg fr y=some (Ai k b)):D P n H (.binOp .neq t x y t') ty fr (Ab (decide (a≠b))):=cb hx hy fun w=>by
 simp [go_sem,bne,Bool.beq_eq_decide_eq]
theorem bc {k':IntKind} {u:TypeDesc} (hs:P.underlying t=some u) (hd:P.underlying t'=some (.int k')) (hx:arg fr x=some (Ai k a)):D P n H (.convert t t' x) ty fr (Ai k' (k'.wrap a)) :=
 .of fun o ho hty w Z F ρ _ hf=>by
  have h1:ρ x=_:=hf (by simp [Op.operands]) hx
  exact ⟨.int k' (k'.wrap a),by simp [execOp,ho,h1,convert,run_underlying hs,run_underlying hd,Sem.run_bind,Conv.intToInt],rfl⟩
end
theorem L8 {x:Operand} {b:Bool} (hx:arg fr x=some (Ab b)):D P n H (.unOp .not t x) ty fr (Ab (!b)) :=
 .of fun o ho hty w Z F ρ _ hf=>by
  have h1:ρ x=_:=hf (by simp [Op.operands]) hx
  exact ⟨.bool (!b),by simp [execOp,ho,h1,go_sem],rfl⟩
theorem W1 {c x y:Operand} {b:Bool} {a:AV} (hc:arg fr c=some (Ab b)) (hb:b=true) (hx:arg fr x=some a):D P n H (.pick c x y) ty fr a :=
 .of fun o ho hty w Z F ρ _ hf=>by
  have h1:ρ c=_:=hf (by simp [Op.operands]) hc
  exact ⟨_,by simp [execOp,ho,h1,hb,go_sem],hf (by simp [Op.operands]) hx⟩
theorem V0 {c x y:Operand} {b:Bool} {a:AV} (hc:arg fr c=some (Ab b)) (hb:b=false) (hy:arg fr y=some a):D P n H (.pick c x y) ty fr a :=
 .of fun o ho hty w Z F ρ _ hf=>by
  have h1:ρ c=_:=hf (by simp [Op.operands]) hc
  exact ⟨_,by simp [execOp,ho,h1,hb,go_sem],hf (by simp [Op.operands]) hy⟩
theorem eql_bool {a b:Bool} {w:World} (ht:P.underlying t=some .bool):(binOp .eql t (.bool a) (.bool b)).run P w = .ok (.bool (decide (a=b))) w:=by
 simp only [binOp,Op.equal,Op.maxDepth,Sem.run_bind,run_equalIn_bool' w 9999 t a b ht,Result.andThen_ok,Sem.run_pure]
 rw [Bool.beq_eq_decide_eq]
theorem dEqB {x y:Operand} {a b:Bool} (ht:P.underlying t=some .bool) (hx:arg fr x=some (Ab a)) (hy:arg fr y=some (Ab b)):D P n H (.binOp .eql t x y t') ty fr (Ab (decide (a=b))) :=
 .of fun o ho hty w Z F ρ _ hf=>by
  have h1:ρ x=_:=hf (by simp [Op.operands]) hx
  have h2:ρ y=_:=hf (by simp [Op.operands]) hy
  exact ⟨.bool (decide (a=b)),by simp [execOp,ho,h1,h2,eqGuard_at_bool,eql_bool ht,Sem.run_bind],rfl⟩
theorem P6 {T:Type} {co:Co T} {xs:List T} {x:Operand} (ht:P.underlying t=some (.slice e)) (hx:arg fr x=some (.fsl co xs)):D P n H (.call ⟨.builtin .len,#[x],#[t]⟩) ty fr (Ai .i64 xs.length) :=
 .of fun o ho hty w Z F ρ _ hf=>by
  obtain ⟨A,c,h1,_⟩:=hf (by simp [Op.operands,Call.operands]) hx
  exact ⟨.int .i64 xs.length,by simp [execOp,ho,h1,resolve,invoke,builtin,Builtin.len_,run_underlying ht,goInt,Sem.run_bind],rfl⟩
theorem J9 {s:ByteArray} {x:Operand} (ht:P.underlying t=some .string) (hx:arg fr x=some (.lit (.string s))):D P n H (.call ⟨.builtin .len,#[x],#[t]⟩) ty fr (Ai .i64 s.size) :=
 .of fun o ho hty w Z F ρ _ hf=>by
  have h1:ρ x=_:=hf (by simp [Op.operands,Call.operands]) hx
  exact ⟨.int .i64 s.size,by simp [execOp,ho,h1,resolve,invoke,builtin,Builtin.len_,run_underlying ht,goInt,Sem.run_bind],rfl⟩
def IsAgg (P:Program) (t:TypeId) (b:Bool):Prop:=∀ w,(isAgg t).run P w = .ok b w
def SizeIs (P:Program) (t:TypeId) (k:Nat):Prop:=∀ w,(sizeOf t).run P w = .ok k w
def FA (P:Program) (t:TypeId) (j off:Nat):Prop:=∀ a w,(Instr.fieldAt t (.pointer (some a)) j).run P w = .ok (.pointer (some (a.add off))) w
theorem dIx {T:Type} [Inhabited T] {co:Co T} {xs:List T} {x y:Operand} {k:IntKind} {i:Int} (ht:P.underlying t=some (.slice e)) (hsz:SizeIs P e co.sz) (hx:arg fr x=some (.fsl co xs)) (hy:arg fr y=some (Ai k i)) (h0:0≤i) (h1:i<xs.length) :
  D P n H (.indexAddr t x y) ty fr (.fptr (co.e (rd xs i))) :=
 .of fun o ho hty w Z F ρ _ hf=>by
  obtain ⟨A,m,e1,hc,hel⟩:=hf (by simp [Op.operands]) hx
  have e2:ρ y=_:=hf (by simp [Op.operands]) hy
  obtain ⟨a,rfl,hb,hat⟩:=hel i.toNat _ (rd_get h0 h1)
  refine ⟨.pointer (some (a.add (i.toNat*co.sz))),?_,_,rfl,by rw [add_block];exact hb,hat⟩
  simp [execOp,ho,e1,e2,Instr.indexAt,run_underlying ht,hsz _,Sem.run_bind,asIntOf,h0,h1]
theorem pe {s:ByteArray} {x y:Operand} {k:IntKind} {i:Int} (ht:P.underlying t=some .string) (hx:arg fr x=some (.lit (.string s))) (hy:arg fr y=some (Ai k i)) (h0:0≤i) (h1:i<s.size):D P n H (.index t x y) ty fr (Ai .u8 (bt s i)) :=
 .of fun o ho hty w Z F ρ _ hf=>by
  have e1:ρ x=_:=hf (by simp [Op.operands]) hx
  have e2:ρ y=_:=hf (by simp [Op.operands]) hy
  obtain ⟨b,hb,hv⟩:=bt_get h0 h1
  exact ⟨.int .u8 (bt s i),by simp [execOp,ho,e1,e2,Instr.index,run_underlying ht,Sem.run_bind,asIntOf,h0,hb,hv],rfl⟩
theorem dFA {x:Operand} {aS:List AV} {j off:Nat} (hf':FA P t j off) (hx:arg fr x=some (.fptr aS)):D P n H (.fieldAddr t x j) ty fr (.fptr (aS.drop off)) :=
 .of fun o ho hty w Z F ρ _ hf=>by
  obtain ⟨a,e1,hb,hat⟩:=hf (by simp [Op.operands]) hx
  exact ⟨_,by simp [execOp,ho,e1,hf' a w,Sem.run_bind],_,rfl,by rw [add_block];exact hb,hat.drop off⟩
theorem load_one {a:Addr} {v:Value} {w:World} (hg:IsAgg P t false) (h:w.cell? a=some v):(Instr.loadAt t (.pointer (some a))).run P w = .ok v w:=by
 simp [Instr.loadAt,Instr.sureAddr,loadVar,Sem.run_bind,hg w,load,Sem.run,h]
theorem load_agg {a:Addr} {vs:List Value} {w:World} {k:Nat} (hg:IsAgg P t true) (hs:SizeIs P t k) (hl:vs.length=k) (h:∀ j u,vs[j]?=some u→w.cell? (a.add j)=some u):(Instr.loadAt t (.pointer (some a))).run P w = .ok (.agg vs.toArray) w:=by
 have:=run_loadCells_list (P:=P) w a vs h
 subst hl
 simp [Instr.loadAt,Instr.sureAddr,loadVar,Sem.run_bind,hg w,hs w,this]
theorem dLd {x:Operand} {aS:List AV} {a:AV} (hg:IsAgg P t false) (hx:arg fr x=some (.fptr aS)) (ha:aS[0]?=some a):D P n H (.load t x) ty fr a :=
 .of fun o ho hty w Z F ρ _ hf=>by
  obtain ⟨ad,e1,hb,vs,h1,h2⟩:=hf (by simp [Op.operands]) hx
  obtain ⟨v,hv,hp⟩:=h1.get ha
  exact ⟨v,by simp [execOp,ho,e1,load_one (a:=ad) (v:=v) hg (by have:=h2 0 v hv;rwa [Addr.add_zero'] at this),Sem.run_bind],hp⟩
theorem G9 {x:Operand} {aS:List AV} {k:Nat} (hg:IsAgg P t true) (hs:SizeIs P t k) (hx:arg fr x=some (.fptr aS)) (hk:k≤aS.length):D P n H (.load t x) ty fr (.agg (aS.take k)) :=
 .of fun o ho hty w Z F ρ _ hf=>by
  obtain ⟨ad,e1,hb,vs,h1,h2⟩:=hf (by simp [Op.operands]) hx
  have hl:=h1.length
  refine ⟨.agg (vs.take k).toArray,?_,_,rfl,h1.take k⟩
  simp [execOp,ho,e1,load_agg (a:=ad) (vs:=vs.take k) hg hs (by simp;omega) (fun j u hj=>h2 j u (by rw [List.getElem?_take] at hj;split at hj;exact hj;cases hj)),Sem.run_bind]
theorem cells_one {v:Value} (h:v.oneCell'=true):v.cells=#[v]:=by cases v <;> first | rfl | (simp [Value.oneCell'] at h)
def CellsOf (a:AV) (aS:List AV):Prop:=∀ Z w v,a.p Z w v→AllP Z w aS v.cells.toList
theorem cOne {a:AV} (h:a.One):CellsOf a [a]:=fun Z w v hv=>by rw [cells_one (h Z w v hv)];exact .cons hv .nil
theorem cAgg {aS:List AV}:CellsOf (.agg aS) aS:=fun Z w v ⟨vs,e,h⟩=>by rw [e];simpa [Value.cells] using h
theorem part_one {cs:List Value} {v:Value} {off:Nat} {w:World} (hg:IsAgg P t false) (h:cs[off]?=some v):(part t cs.toArray off).run P w = .ok v w:=by
 simp [part,Sem.run_bind,hg w,h]
theorem dX {x:Operand} {aS:List AV} {a:AV} {i:Nat} (hx:arg fr x=some (.tup aS)) (ha:aS[i]?=some a):D P n H (.extract x i) ty fr a :=
 .of fun o ho hty w Z F ρ _ hf=>by
  obtain ⟨vs,e,h1⟩:=hf (by simp [Op.operands]) hx
  obtain ⟨v,hv,hp⟩:=h1.get ha
  exact ⟨v,by simp [execOp,ho,e,Instr.extract,hv,Sem.run_bind],hp⟩
end
end S
namespace S
open Go.RowKit
set_option linter.unusedVariables false
set_option linter.unusedSimpArgs false
def Res.box (b:Nat) (aS:List AV):Res :=
 ⟨fun Z w F=>F b∧∃ vs t,w.heap[b]?=some (.cells vs.toArray t (0,0))∧AllP Z w aS vs,
  fun hz hk h=>by
  obtain ⟨hb,vs,t,h1,h2⟩:=h
  exact ⟨hb,vs,t,(hk b (.inr hb)).trans h1,h2.st hz fun c hc=>hk c (.inl hc)⟩⟩
def AV.sv (v:Value):AV:=⟨fun _ _ u=>u=v∧∃ A n m,v = .slice A n m,fun _ _ h=>h⟩
def Rows {T:Type} (c:Co T) (Z:Nat→Prop) (w:World) (xs:List T) (cs:List Value):Prop:=∀ i x,xs[i]?=some x→∃ vs,AllP Z w (c.e x) vs∧∀ j u,vs[j]?=some u→cs[i*c.sz+j]?=some u
theorem Rows.st {T:Type} {c:Co T} {Z Z':Nat→Prop} {w w':World} {xs:List T} {cs:List Value} (hz:∀ b,Z b→Z' b) (hk:Keep Z w w') (h:Rows c Z w xs cs):Rows c Z' w' xs cs:=fun i x hx=>by
 obtain ⟨vs,h1,h2⟩:=h i x hx
 exact ⟨vs,h1.st hz hk,h2⟩
def FzOk (fz:Nat×Nat) (m:Nat):Prop:=fz=(0,0)∨m≤fz.1
def RowAt (w:World) (g:Nat) (cur:Array Value) (t:TypeId):Prop:=∃ fz,w.heap[g]?=some (.cells cur t fz)∧FzOk fz cur.size
theorem RowAt.new {w:World} {g:Nat} {cur:Array Value} {t:TypeId} (h:w.heap[g]?=some (.cells cur t (0,0))):RowAt w g cur t:=⟨(0,0),h,.inl rfl⟩
def rowOwn (w:World) (t:TypeId) (sz:Nat) (v:Value) (n:Nat) (xs:List Value):Prop :=
 xs.length=n*sz∧((v = .slice none 0 0∧n=0)∨∃ g cap cur,v = .slice (some ⟨g,0,none⟩) n cap∧0≤g∧RowAt w g cur t∧n≤cap∧cap≤maxLen∧cur.size=cap*sz∧cur.toList.take (n*sz)=xs)
theorem rowOwn_of {w:World} {t:TypeId} {sz n:Nat} {v:Value} {xs:List Value} (h:w.ownsRow 0 t sz v n xs):rowOwn w t sz v n xs :=
 ⟨h.1,h.2.imp id fun ⟨g,cap,cur,hv,hg,hh,r⟩=>⟨g,cap,cur,hv,hg,.new hh,r⟩⟩
theorem rowOwn_keep {w w':World} {t:TypeId} {sz n:Nat} {v:Value} {cs:List Value} (h:rowOwn w t sz v n cs) (hk:∀ b,v.ownBlock=some b→w'.heap[b]?=w.heap[b]?):rowOwn w' t sz v n cs:=by
 obtain ⟨h1,h2 | ⟨g,cap,cur,hv,hg,⟨fz,hh,hf⟩,r⟩⟩:=h
 ·exact ⟨h1,.inl h2⟩
 ·exact ⟨h1,.inr ⟨g,cap,cur,hv,hg,⟨fz,(hk g (by rw [hv];rfl)).trans hh,hf⟩,r⟩⟩
def Res.own {T:Type} (t:TypeId) (c:Co T) (v:Value) (xs:List T):Res :=
 ⟨fun Z w F=>(∃ cs,rowOwn w t c.sz v xs.length cs∧(∀ b,v.ownBlock=some b→F b)∧Rows c Z w xs cs)∨(xs=[]∧∃ A,v = .slice A 0 0),
  fun hz hk h=>h.imp (fun ⟨cs,h1,h2,h3⟩=>⟨cs,rowOwn_keep h1 (fun b hb=>hk b (.inr (h2 b hb))),h2,h3.st hz fun c hc=>hk c (.inl hc)⟩) id⟩
def Res.fz {T:Type} (c:Co T) (v:Value) (xs:List T):Res:=⟨fun Z w _=>(AV.fsl c xs).p Z w v,fun hz hk h=>AV.st _ hz (fun b hb=>hk b (.inl hb)) h⟩
theorem own_fsl {T:Type} {t:TypeId} {c:Co T} {v:Value} {xs:List T} {Z F:Nat→Prop} {w:World} (h:(Res.own t c v xs).h Z w F):(AV.fsl c xs).p (fun b=>Z b∨F b) w v:=by
 obtain ⟨cs,⟨hl,ho⟩,hb,hr⟩ | ⟨rfl,A,rfl⟩:=h
 case inr=>exact ⟨A,0,rfl,Nat.le_refl _,fun i x hx=>by simp at hx⟩
 rcases ho with ⟨hv,hn⟩ | ⟨g,cap,cur,hv,hg,⟨fz,hh,_⟩,hcap,hm,hcs,htk⟩
 ·refine ⟨none,0,by rw [hv,hn],by omega,fun i x hx=>?_⟩
  have:xs=[]:=List.length_eq_zero_iff.1 hn
  subst this;simp at hx
 ·refine ⟨some ⟨g,0,none⟩,cap,hv,hcap,fun i x hx=>⟨_,rfl,.inr (hb g (by rw [hv];rfl)),?_⟩⟩
  obtain ⟨vs,h1,h2⟩:=hr i x hx
  refine ⟨vs,h1.st (fun _ h=>.inl h) (fun _ _=>rfl),fun j u hj=>?_⟩
  have h3:=h2 j u hj
  rw [add_add,Addr.add_lit,cell_of_row w g _ cur t fz hh]
  rw [← htk,List.getElem?_take] at h3
  split at h3
  ·simpa using h3
  ·cases h3
theorem own_sv {T:Type} {t:TypeId} {c:Co T} {v:Value} {xs:List T} {Z F:Nat→Prop} {w:World} (h:(Res.own t c v xs).h Z w F):∃ A m,v = .slice A xs.length m:=by
 obtain ⟨A,m,e,_⟩:=own_fsl h
 exact ⟨A,m,e⟩
theorem AllP.oneL {Z:Nat→Prop} {w:World} {aS:List AV} {vs:List Value} (h:AllP Z w aS vs) (ho:OneL aS):∀ v ∈ vs,v.oneCell'=true:=by
 induction h with
 | nil=>intro v hv;cases hv
 | cons h _ ih =>
  intro v hv
  rcases List.mem_cons.1 hv with rfl | hv
  ·exact ho.1 _ _ _ h
  ·exact ih ho.2 v hv
section
variable {P:Program} {f:FuncId} {n:Nat} {ops:Array Oper} {l:List Oper} {k:List Item} {fr:Fr} {H:List Res} {ρ R:Type} {x:Option ρ} {X:ρ→Option R} {K:R→AV→List Res→Prop} {ty t t' e:TypeId} {d:Nat} {pos:String} {aft:Array Edge}
theorem Qb {op:Op} {I:Type} {av:I→AV} {H':I→List Res}
  (hop:∀ (o:Oper),o.op=op→o.type=ty→∀ (w0:World) (F0 Z0:Nat→Prop) (w:World) (F Z:Nat→Prop) (ρ:Operand→Value),Inv w0 w F0 Z0 F Z H→Rho op fr Z w ρ →
   ∃ v w' ι F' Z',(execOp ρ o).run P w = .ok (.value v) w'∧Inv w0 w' F0 Z0 F' Z' (H' ι)∧(∀ b,Z b→Z' b)∧Keep Z w w'∧(av ι).p Z' w' v)
  (hdn:Nat.blt d n=true) (h:∀ ι,SimL P f n ops l k ((d,av ι)::fr) (H' ι) x X K):SimL P f n ops (⟨some d,op,ty,pos,aft,none⟩::l) k fr H x X K:=by
 intro is hs r hr w0 F0 Z0 w F Z tmps hn hi hf
 cases is with
 | nil=>simp at hs
 | cons i is =>
  simp only [List.map_cons,List.cons.injEq] at hs
  have hdn':d<n:=by simpa [Nat.blt_eq] using hdn
  obtain ⟨v,w',ι,F',Z',hrun,hi',hz,hk,hv⟩:=hop ⟨some d,op,ty,pos,aft,none⟩ rfl rfl w0 F0 Z0 w F Z (⟨tmps,[]⟩:Act).eval hi fun hm hx=>arg_ok (hf.on _) hx hm
  exact .value hs.1 (wanted_none rfl) hrun (h ι is hs.2 r hr w0 F0 Z0 w' F' Z' _ (by simpa [putT] using hn) hi' ((hf.st hz hk).put (by omega) hv))
theorem Lc {op:Op} {H':List Res}
  (hop:∀ (o:Oper),o.op=op→∀ (w0:World) (F0 Z0:Nat→Prop) (w:World) (F Z:Nat→Prop) (ρ:Operand→Value),Inv w0 w F0 Z0 F Z H→Rho op fr Z w ρ →
   ∃ w' F' Z',(execOp ρ o).run P w = .ok .skip w'∧Inv w0 w' F0 Z0 F' Z' H'∧(∀ b,Z b→Z' b)∧Keep Z w w')
  (h:SimL P f n ops l k fr H' x X K):SimL P f n ops (⟨none,op,ty,pos,aft,none⟩::l) k fr H x X K:=by
 intro is hs r hr w0 F0 Z0 w F Z tmps hn hi hf
 cases is with
 | nil=>simp at hs
 | cons i is =>
  simp only [List.map_cons,List.cons.injEq] at hs
  obtain ⟨w',F',Z',hrun,hi',hz,hk⟩:=hop ⟨none,op,ty,pos,aft,none⟩ rfl w0 F0 Z0 w F Z (⟨tmps,[]⟩:Act).eval hi fun hm hx=>arg_ok (hf.on _) hx hm
  exact .skipped hs.1 (wanted_none rfl) hrun (h is hs.2 r hr w0 F0 Z0 w' F' Z' _ hn hi' (hf.st hz hk))
theorem Inv.push {w0 w:World} {F0 Z0 F Z:Nat→Prop} (h:Inv w0 w F0 Z0 F Z H) (o:Obj) (r:Res) (hr:r.h Z (w.alloc o) (fun b=>b=w.heap.size)):Inv w0 (w.alloc o) F0 Z0 (fun b=>F b∨b=w.heap.size) Z (r::H):=by
 have s:Step w (w.alloc o) (fun _=>False):=Step.alloc w o _
 refine h.step s (fun _ x=>x.elim) (fun _ x=>x) (fun _ x=>.inl x) (fun b hb=>?_) ?_
 ·rcases hb with hb | hb
  ·exact ⟨.inl hb,(h.fin b hb).2.2⟩
  ·subst hb
   refine ⟨.inr ⟨Nat.le_refl _,by simp⟩,fun hz=>?_⟩
   have:=(h.zin _ hz).1;omega
 ·refine ⟨fun b=>b=w.heap.size,F,hr,h.res.st (fun _ x=>x) (fun b hb=>s.keep b ?_ id),fun b hb=>?_,fun b hb=>.inl hb⟩
  ·rcases hb with x | x
   ·exact (h.zin b x).1
   ·exact (h.fin b x).1
  ·subst hb
   exact ⟨.inr rfl,fun hF=>by have:=(h.fin _ hF).1;omega⟩
theorem Inv.turn {w0 w w':World} {F0 Z0 F Z:Nat→Prop} {j:Nat} {r r':Res} (h:Inv w0 w F0 Z0 F Z H) (hj:H[j]?=some r)
  (hw:∀ F1:Nat→Prop,r.h Z w F1→(∀ b,Z b→b<w.heap.size∧¬ F1 b)→∃ G1:Nat→Prop,Step w w' F1∧r'.h Z w' G1∧(∀ b,G1 b→F1 b∨(w.heap.size≤b∧b<w'.heap.size))):∃ F',Inv w0 w' F0 Z0 F' Z (H.set j r')∧Keep Z w w':=by
 obtain ⟨F1,h1,hF,hset⟩:=HAll.set (r':=r') hj h.res
 obtain ⟨G1,s,h2,hG⟩:=hw F1 h1 fun b hb=>⟨(h.zin b hb).1,fun x=>(h.fin b (hF b x)).2.2 hb⟩
 refine ⟨fun b=>F b∨G1 b,h.step s hF (fun _ x=>x) (fun _ x=>.inl x) (fun b hb=>?_) (hset Z w' G1 (fun _ x=>x) (fun b hb=>s.keep b ?_ ?_) h2 (fun b hb=>(hG b hb).imp id fun x y=>?_)),h.keepZ s hF⟩
 ·rcases hb with hb | hb
  ·exact ⟨.inl hb,(h.fin b hb).2.2⟩
  ·rcases hG b hb with x | x
   ·exact ⟨.inl (hF b x),(h.fin b (hF b x)).2.2⟩
   ·exact ⟨.inr x,fun hz=>by have:=(h.zin b hz).1;omega⟩
 ·rcases hb with x | x
  ·exact (h.zin b x).1
  ·exact (h.fin b x.1).1
 ·rcases hb with x | x
  ·exact fun y=>(h.fin b (hF b y)).2.2 x
  ·exact x.2
 ·have:=(h.fin b y).1;omega
theorem alloc_cells (w:World) (vs:List Value) (t:TypeId):(w.alloc (.cells vs.toArray t)).heap[w.heap.size]?=some (.cells vs.toArray t (0,0)):=heap_alloc_new w _
theorem V5 {zs:List Value} {az:List AV} (hz:∀ w,(Instr.alloc t true (.tuple #[])).run P w = .ok (.pointer (some ⟨w.heap.size,0,none⟩)) (w.alloc (.cells zs.toArray t))) (ha:∀ Z w,AllP Z w az zs) (hdn:Nat.blt d n=true)
  (h:∀ b,SimL P f n ops l k ((d,.lit (.pointer (some ⟨b,0,none⟩)))::fr) (.box b az::H) x X K):SimL P f n ops (⟨some d,.alloc t,ty,pos,aft,none⟩::l) k fr H x X K :=
 Qb (I:=Nat) (fun o ho hty w0 F0 Z0 w F Z ρ hi hf=>⟨.pointer (some ⟨w.heap.size,0,none⟩),w.alloc (.cells zs.toArray t),w.heap.size,_,Z,by simp [execOp,ho,hz w,Sem.run_bind],hi.push _ (.box w.heap.size az) ⟨rfl,zs,t,alloc_cells w zs t,ha _ _⟩,fun _ x=>x,(Step.alloc w _ _).keep' hi,rfl⟩) hdn h
theorem box_run {v:Value} {w:World}:(Instr.box t v).run P w = .ok (.pointer (some ⟨w.heap.size,0,none⟩)) (w.alloc (.cells v.cells.toList.toArray t)):=rfl
theorem Mc {y:Operand} {a:AV} {aS:List AV} (hy:arg fr y=some a) (hc:CellsOf a aS) (hdn:Nat.blt d n=true)
  (h:∀ b,SimL P f n ops l k ((d,.lit (.pointer (some ⟨b,0,none⟩)))::fr) (.box b aS::H) x X K):SimL P f n ops (⟨some d,.box t y,ty,pos,aft,none⟩::l) k fr H x X K :=
 Qb (I:=Nat) (fun o ho hty w0 F0 Z0 w F Z ρ hi hf=>⟨.pointer (some ⟨w.heap.size,0,none⟩),w.alloc (.cells (ρ y).cells.toList.toArray t),w.heap.size,_,Z,by simp only [execOp,ho,box_run,Sem.run_bind,Result.andThen_ok,Sem.run_pure],hi.push _ (.box w.heap.size aS) ⟨rfl,_,t,alloc_cells w _ t,hc _ _ _ (AV.st _ (fun _ x=>x) ((Step.alloc w _ _).keep' hi) (hf (by simp [Op.operands]) hy))⟩,fun _ x=>x,(Step.alloc w _ _).keep' hi,rfl⟩) hdn h
theorem ja {y:Operand} {a:AV} {az:List AV} (hy:arg fr y=some a) (hc:CellsOf a az):D P n H (.box t y) ty fr (.fptr az):=by
 intro o ho hty w0 F0 Z0 w F Z tmps hn hi hf
 have hp:=arg_ok hf hy (by simp [Op.operands])
 have s:=Step.alloc w (.cells ((⟨tmps,[]⟩:Act).eval y).cells.toList.toArray t) (fun _=>False)
 refine .inl ⟨.pointer (some ⟨w.heap.size,0,none⟩),_,by simp only [execOp,ho,box_run,Sem.run_bind,Result.andThen_ok,Sem.run_pure],fun b=>Z b∨b=w.heap.size,fun _ x=>.inl x,fun b x=>x.imp id fun e=>by subst e;exact ⟨Nat.le_refl _,by simp⟩,s,⟨w.heap.size,0,none⟩,rfl,.inr rfl,_,(hc _ _ _ hp).st (fun _ x=>.inl x) (s.keep' hi),fun j u hj=>?_⟩
 rw [Addr.add_lit,cell_of_row _ _ _ _ _ _ (alloc_cells w _ t)]
 simpa using hj
theorem HAll.at {Z F:Nat→Prop} {w:World} {j:Nat} {r:Res} (h:HAll H Z w F) (hj:H[j]?=some r):∃ F1:Nat→Prop,r.h Z w F1∧∀ b,F1 b→F b:=by
 obtain ⟨F1,F2,h1,_,d1,_⟩:=h.take hj
 exact ⟨F1,h1,fun b hb=>(d1 b hb).1⟩
theorem P2 {y:Operand} {b o j off:Nat} (hf':FA P t j off) (hy:arg fr y=some (.lit (.pointer (some ⟨b,o,none⟩)))):D P n H (.fieldAddr t y j) ty fr (.lit (.pointer (some ⟨b,o+off,none⟩))) :=
 .of fun q ho hty w Z F ρ _ hf=>by
  have e1:ρ y=_:=hf (by simp [Op.operands]) hy
  exact ⟨.pointer (some ⟨b,o+off,none⟩),by simp [execOp,ho,e1,hf' _ w,Sem.run_bind,Addr.add_lit],rfl⟩
theorem Q5 {y:Operand} {b o j:Nat} {aS:List AV} {a:AV} (hg:IsAgg P t false) (hy:arg fr y=some (.lit (.pointer (some ⟨b,o,none⟩)))) (hj:H[j]?=some (.box b aS)) (ha:aS[o]?=some a):D P n H (.load t y) ty fr a :=
 .of fun q ho hty w Z F ρ hH hf=>by
  have e1:ρ y=_:=hf (by simp [Op.operands]) hy
  obtain ⟨F1,⟨hb,vs,t',h1,h2⟩,_⟩:=hH.at hj
  obtain ⟨v,hv,hp⟩:=h2.get ha
  exact ⟨v,by simp [execOp,ho,e1,load_one (a:=⟨b,o,none⟩) (v:=v) hg (by rw [cell_of_row _ _ _ _ _ _ h1];simpa using hv),Sem.run_bind],hp⟩
theorem J6 {y:Operand} {b o j m:Nat} {aS:List AV} (hg:IsAgg P t true) (hs:SizeIs P t m) (hy:arg fr y=some (.lit (.pointer (some ⟨b,o,none⟩)))) (hj:H[j]?=some (.box b aS)) (hm:o+m≤aS.length):D P n H (.load t y) ty fr (.agg ((aS.drop o).take m)) :=
 .of fun q ho hty w Z F ρ hH hf=>by
  have e1:ρ y=_:=hf (by simp [Op.operands]) hy
  obtain ⟨F1,⟨hb,vs,t',h1,h2⟩,_⟩:=hH.at hj
  have hl:=h2.length
  refine ⟨.agg ((vs.drop o).take m).toArray,?_,_,rfl,(h2.drop o).take m⟩
  have:=load_agg (P:=P) (t:=t) (a:=⟨b,o,none⟩) (vs:=(vs.drop o).take m) (w:=w) hg hs (by simp;omega) (fun i u hu=>by
   rw [Addr.add_lit,cell_of_row _ _ _ _ _ _ h1]
   rw [List.getElem?_take] at hu
   split at hu
   ·simpa using hu
   ·cases hu)
  simp only [execOp,ho,e1,this,Sem.run_bind,Result.andThen_ok,Sem.run_pure]
def splice (aS:List AV) (o:Nat) (bs:List AV):List AV:=aS.take o++(bs++aS.drop (o+bs.length))
theorem AllP.splice {Z:Nat→Prop} {w:World} {aS bs:List AV} {vs us:List Value} (h:AllP Z w aS vs) (h':AllP Z w bs us) (o:Nat):AllP Z w (S.splice aS o bs) (vs.take o++us++vs.drop (o+us.length)):=by
 have hl:=h'.length
 unfold S.splice
 rw [List.append_assoc,← hl]
 exact (h.take o).append (h'.append (h.drop _))
theorem run_storeCells_fz (g o:Nat) (t:TypeId) (fz:Nat×Nat):∀ (vs:List Value) (i:Nat) (cur:Array Value) (w:World),w.heap[g]?=some (.cells cur t fz)→FzOk fz cur.size→o+i+vs.length≤cur.size→(∀ v ∈ vs,v.oneCell'=true) →
  (storeCells ⟨g,o,none⟩ vs i).run P w = .ok () (w.setRow g (cur.toList.take (o+i)++vs++cur.toList.drop (o+i+vs.length)).toArray)
 | [],i,cur,w,hg,_,_,_=>by
  simp only [storeCells,List.append_nil,List.length_nil,Nat.add_zero,List.take_append_drop,Array.toArray_toList]
  rw [setRow_self w g cur t fz hg]
  rfl
 | v::rest,i,cur,w,hg,hz,hl,h1=>by
  have hi:o+i<cur.size:=by simp at hl;omega
  have hadd:(⟨g,o,none⟩:Addr).add i=⟨g,o+i,none⟩:=by unfold Addr.add;split <;> simp_all
  have hcell:w.cell? ⟨g,o+i,none⟩=some cur[o+i]:=by simp [World.cell?,hg,hi]
  have hfro:w.frozen? ⟨g,o+i,none⟩=false:=by
   rcases hz with rfl | hz
   ·simp [World.frozen?,hg]
   ·obtain ⟨lo,hi'⟩:=fz
    simp only at hz
    simp only [World.frozen?,hg,Bool.and_eq_false_iff,decide_eq_false_iff_not]
    left;omega
  have hst:(store ((⟨g,o,none⟩:Addr).add i) v).run P w = .ok () (w.setRow g (cur.setIfInBounds (o+i) v)):=by
   rw [hadd,run_store P w _ v _ (h1 v (by simp)),hcell]
   simp [hfro,setCell_eq_setRow w g (o+i) cur t fz v hg]
  have ih:=run_storeCells_fz g o t fz rest (i+1) (cur.setIfInBounds (o+i) v) (w.setRow g (cur.setIfInBounds (o+i) v)) (setRow_heap w g cur _ t _ hg) (by simpa using hz) (by simp at hl ⊢;omega) (fun x hx=>h1 x (by simp [hx]))
  simp only [storeCells,Sem.run_bind,hst,Result.andThen_ok,ih,setRow_setRow]
  congr 3
  have e:=list_seg_step cur.toList (o+i) v rest (by simp at hl ⊢;omega)
  simpa [Array.toList_setIfInBounds,Nat.add_assoc] using e
theorem store_row {b o m:Nat} {vs us:List Value} {t':TypeId} {fz:Nat×Nat} {v:Value} {w:World} (hs:SizeIs P t m) (hv:v.cells.toList=us) (hm:us.length=m) (hh:w.heap[b]?=some (.cells vs.toArray t' fz)) (hz:FzOk fz vs.length) (hl:o+m≤vs.length) (h1:∀ u ∈ us,u.oneCell'=true) :
  (Instr.storeAt t (.pointer (some ⟨b,o,none⟩)) v).run P w = .ok () (w.setRow b (vs.take o++us++vs.drop (o+us.length)).toArray):=by
 have hc:v.cells.size=m:=by rw [← hm,← hv];simp
 have:=run_storeCells_fz (P:=P) b o t' fz us 0 vs.toArray w hh (by simpa using hz) (by simp;omega) h1
 simp only [Nat.add_zero] at this
 simp only [Instr.storeAt,Instr.sureAddr,storeVar,Sem.run_bind,Sem.run_pure,Result.andThen_ok,hs w,hc,ne_eq,not_true_eq_false,if_false,hv,this]
theorem Step.setRow (w:World) (b:Nat) (cs:Array Value) (F1:Nat→Prop) (h:F1 b):Step w (w.setRow b cs) F1:=by
 refine ⟨rfl,rfl,rfl,Nat.le_refl _,by simp [World.setRow],fun c _ hn=>?_⟩
 have:c≠b:=fun e=>hn (e ▸ h)
 simp only [World.setRow,Array.getElem?_modify]
 rw [if_neg (fun e=>this e.symm)]
theorem stB_op {y v:Operand} {b o j m:Nat} {az bs:List AV} {a:AV} (hs:SizeIs P t m) (hy:arg fr y=some (.lit (.pointer (some ⟨b,o,none⟩)))) (hj:H[j]?=some (.box b az)) (hv:arg fr v=some a) (hc:CellsOf a bs) (ho1:OneL bs) (hm:bs.length=m) (hl:o+m≤az.length)
  (q:Oper) (ho:q.op = .store t y v) (w0:World) (F0 Z0:Nat→Prop) (w:World) (F Z:Nat→Prop) (ρ:Operand→Value) (hi:Inv w0 w F0 Z0 F Z H) (hf:Rho (.store t y v) fr Z w ρ) :
  ∃ w' F' Z',(execOp ρ q).run P w = .ok .skip w'∧Inv w0 w' F0 Z0 F' Z' (H.set j (.box b (splice az o bs)))∧(∀ b,Z b→Z' b)∧Keep Z w w':=by
 have e1:ρ y=_:=hf (by simp [Op.operands]) hy
 have hp:=hf (by simp [Op.operands]) hv
 have hcs:=hc _ _ _ hp
 obtain ⟨F1,⟨hb,vs,t',h1,h2⟩,_⟩:=hi.res.at hj
 have l1:=hcs.length
 have l2:=h2.length
 have hr:=store_row (P:=P) (t:=t) (b:=b) (o:=o) (v:=ρ v) (us:=(ρ v).cells.toList) (vs:=vs) (w:=w) hs rfl (by omega) h1 (.inl rfl) (by omega) (hcs.oneL ho1)
 obtain ⟨F',hi',hk⟩:=hi.turn (w':=w.setRow b (vs.take o++(ρ v).cells.toList++vs.drop (o+(ρ v).cells.toList.length)).toArray) (r':=.box b (splice az o bs)) hj fun F1 ⟨hb,us,t2,g1,g2⟩ hz1=>by
  rw [h1] at g1;cases g1
  have s:=Step.setRow w b (vs.take o++(ρ v).cells.toList++vs.drop (o+(ρ v).cells.toList.length)).toArray F1 hb
  refine ⟨F1,s,⟨hb,_,t',setRow_heap w b _ _ t' _ h1,?_⟩,fun _ x=>.inl x⟩
  have hkz:Keep Z w (w.setRow b (vs.take o++(ρ v).cells.toList++vs.drop (o+(ρ v).cells.toList.length)).toArray):=fun c hz=>s.keep c (hz1 c hz).1 (hz1 c hz).2
  exact (h2.splice hcs o).st (fun _ x=>x) hkz
 exact ⟨_,F',Z,by simp [execOp,ho,e1,hr,Sem.run_bind],hi',fun _ x=>x,hk⟩
theorem V4 {y v:Operand} {b o j m:Nat} {az bs:List AV} {a:AV} (hs:SizeIs P t m) (hy:arg fr y=some (.lit (.pointer (some ⟨b,o,none⟩)))) (hj:H[j]?=some (.box b az)) (hv:arg fr v=some a) (hc:CellsOf a bs) (ho1:OneL bs) (hm:bs.length=m) (hl:o+m≤az.length)
  (h:SimL P f n ops l k fr (H.set j (.box b (splice az o bs))) x X K):SimL P f n ops (⟨none,.store t y v,ty,pos,aft,none⟩::l) k fr H x X K :=
 Lc (stB_op hs hy hj hv hc ho1 hm hl) h
end
end S
end Go.Proofs.Ytokccimmgilciaa

