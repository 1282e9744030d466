import Derived.Test.YtgmnohjaciemmaaW12
namespace Go.Proofs.Ytgmnohjaciemmaa
open S Go.Sort
set_option linter.unusedVariables false
set_option linter.unusedSimpArgs false
set_option maxRecDepth 100000
theorem rows_l0 (K:Nat) {x y:Int} (h:iand .i64 x 31=iand .i64 y 31):∀ m s,Q0.l0 K x m s=Q0.l0 K y m s
 | 0,_=>rfl
 | m+1,(a,b)=>by simp only [Q0.l0,h,rows_l0 K h m]
theorem rows_l1 (K:Nat) (xs:List Conjunct) (r:Automaton×Int) {x y:Int} (h:iand .i64 x 31=iand .i64 y 31):∀ m s,Q0.l1 K x xs r m s=Q0.l1 K y xs r m s
 | 0,_=>rfl
 | m+1,b=>by simp only [Q0.l1,h,rows_l1 K xs r h m]
theorem rows_l2 (K:Nat) (r:Automaton×Int) {x y:Int} (h:iand .i64 x 31=iand .i64 y 31):∀ m s,Q0.l2 K x r m s=Q0.l2 K y r m s
 | 0,_=>rfl
 | m+1,b=>by simp only [Q0.l2,h,rows_l2 K r h m]
theorem rows_eq (K:Nat) (more:Bool) {x y:Int} (h:iand .i64 x 31=iand .i64 y 31):Q0 K x more=Q0 K y more:=by
 unfold Q0
 simp only [rows_l0 K h,rows_l1 K _ _ h,rows_l2 K _ h,h]
def rowsR (K:Nat) (k:Nat) (more:Bool):Option Bool:=(Q0.l0 K (k:Int) K (([(⟨false,([]:List Symbol)⟩:Conjunct)]:List Conjunct),0)).bind fun (xs_9,i_10)=>(if more=true then if (([(⟨(0:Int),xs_9⟩:Rule)]:List Rule).length+([(⟨(0:Int),([(⟨true,([]:(List Symbol))⟩:Conjunct)]:List Conjunct)⟩:Rule)]:List Rule).length)*32≤140737488355328 then some (([(⟨(0:Int),xs_9⟩:Rule)]:List Rule)++([(⟨(0:Int),([(⟨true,([]:(List Symbol))⟩:Conjunct)]:List Conjunct)⟩:Rule)]:List Rule)) else none else some ([(⟨(0:Int),xs_9⟩:Rule)]:List Rule)).bind fun xs_22=>(V0 K (⟨(0:Int),([(⟨#[83]⟩:ByteArray)]:List ByteArray),xs_22⟩:Grammar)).bind fun r_27=>(m3 K r_27.2).bind fun r_30=>if r_30≠0 then some false else if (r_27.1.States.length:Int)≠(IntKind.wrap .i64 ((iand .i64 (k:Int) 31)+1)) then some false else if (r_27.1.Moves.length:Int)≠(iand .i64 (k:Int) 31) then some false else brk (Q0.l1 K (k:Int) xs_9 r_27 K 0) fun i_35=>brk (Q0.l2 K (k:Int) r_27 K 1) fun i_42=>some true
def yes (o:Option Bool):Bool:=match o with | some true=>true | _=>false
theorem yes_of {o:Option Bool} (h:yes o=true):o=some true:=by
 unfold yes at h
 split at h
 ·rfl
 ·cases h
theorem rowsAll (K:Nat):((List.range 32).all fun k=>yes (rowsR (K+1000) k false) && yes (rowsR (K+1000) k true))=true:=by kernel_rfl
theorem rowsR_true (K:Nat) {k:Nat} (hk:k<32) (more:Bool):rowsR (K+1000) k more=some true:=by
 have:=List.all_eq_true.1 (rowsAll K) k (List.mem_range.2 hk)
 rw [Bool.and_eq_true] at this
 cases more with
 | false=>exact yes_of this.1
 | true=>exact yes_of this.2
theorem Rows_holds (many:Int) (more:Bool):∃ K,Q0 K many more=some true:=by
 refine ⟨KW+1000,?_⟩
 have hK:KW≤KW+1000:=by omega
 have h31:iand .i64 many 31=many % 32:=and31 many
 obtain ⟨k,hk,hk32⟩:∃ k:Nat,many % 32=(k:Int)∧k<32:=⟨(many % 32).toNat,by omega,by omega⟩
 have h31k:iand .i64 (k:Int) 31=(k:Int):=by rw [and31];omega
 rw [rows_eq (KW+1000) more (show iand .i64 many 31=iand .i64 (k:Int) 31 by rw [h31,hk,h31k])]
 have hb:Q5 (KW+1000)=V0 (KW+1000):=funext (Build_ref (KW+1000) hK)
 have h:=rowsR_true KW hk32 more
 unfold Q0
 rw [awake13 _ hK,Option.bind_some,if_neg (show ¬ (!true)=true by decide),hb]
 exact h
end Go.Proofs.Ytgmnohjaciemmaa

