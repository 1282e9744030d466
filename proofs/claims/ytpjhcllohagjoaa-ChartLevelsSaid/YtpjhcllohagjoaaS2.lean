/-
  Sim: objects (variables of the call's own behind pointers) whose cells hold slices that are owned: lent; handed back. Own work; no claim stands here.
-/
import Derived.Test.YtpjhcllohagjoaaS1
namespace Go.Proofs.Ytpjhcllohagjoaa
namespace S
open Go.RowKit
set_option linter.unusedVariables false
set_option linter.unusedSimpArgs false
set_option linter.unusedSectionVars false

variable {H : List Res}
/-- A box whose cells hold what is owned, as memory to be read. -/
theorem lendB {b : Nat} {cs bs : List AV} (j : Nat) (hj : H[j]? = some (.box b cs)) (h : LendL H cs bs) {Z F : Nat → Prop} {w : World} {u : Value} (hH : HAll H Z w F) (hp : (AV.lit (.pointer (some ⟨b, 0, none⟩))).p Z w u) : (AV.fptr bs).p (fun b => Z b ∨ F b) w u := by
  obtain ⟨F1, ⟨hb, vs, t', h1, h2⟩, hF⟩ := hH.at hj
  rw [show u = _ from hp]
  exact ⟨_, rfl, .inr (hF _ hb), vs, lend_ok h hH h2, fun i u hu => by rw [Addr.add_lit, cell_of_row _ _ _ _ _ _ h1]; simpa using hu⟩
/-! ### Pointers held against nil -/
section
variable {P : Program} {n : Nat} {ty t t' e : TypeId} {fr : Fr}
/-- A pointer that is none, or is not. -/
def PtrN (a : AV) (q : Bool) : Prop := ∀ Z w v, a.p Z w v → ∃ A : Option Addr, v = .pointer A ∧ A.isNone = q
theorem pnBox {x : Addr} : PtrN (.lit (.pointer (some x))) false := fun _ _ _ h => ⟨_, h, rfl⟩
theorem pnNil : PtrN (.lit (.pointer none)) true := fun _ _ _ h => ⟨_, h, rfl⟩
theorem pnF {as : List AV} : PtrN (.fptr as) false := fun _ _ _ ⟨a, h, _⟩ => ⟨_, h, rfl⟩
theorem run_eqIn_np (w : World) (d : Nat) {A : Option Addr} (ht : P.underlying t = some (.pointer e)) : (Op.equalIn (d + 1) t (.pointer A) (.pointer none)).run P w = .ok A.isNone w := by
  cases A <;> simp [Op.equalIn, run_underlying ht]
theorem dEqP {y : Operand} {a : AV} {q : Bool} (ht : P.underlying t = some (.pointer e)) (hy : arg fr y = some a) (hq : PtrN a q) : D P n H (.binOp .eql t y (.const (.pointer none)) t') ty fr (Ab q) :=
  .of fun o ho hty w Z F ρ hH hf => by
    obtain ⟨A, e1, hA⟩ := hq _ _ _ (hf (by simp [Op.operands]) hy)
    have e2 : ρ (.const (.pointer none)) = _ := hf (a := .lit (.pointer none)) (by simp [Op.operands]) rfl
    have e3 : (binOp .eql t (.pointer A) (.pointer none)).run P w = .ok (.bool A.isNone) w := by simp only [binOp, Op.equal, Op.maxDepth, Sem.run_bind, run_eqIn_np w 9999 ht, Result.andThen_ok, Sem.run_pure]
    exact ⟨.bool q, by simp [execOp, ho, e1, e2, e3, hA, Sem.run_bind, eqGuard], rfl⟩
theorem dNeP {y : Operand} {a : AV} {q : Bool} (ht : P.underlying t = some (.pointer e)) (hy : arg fr y = some a) (hq : PtrN a q) : D P n H (.binOp .neq t y (.const (.pointer none)) t') ty fr (Ab (!q)) :=
  .of fun o ho hty w Z F ρ hH hf => by
    obtain ⟨A, e1, hA⟩ := hq _ _ _ (hf (by simp [Op.operands]) hy)
    have e2 : ρ (.const (.pointer none)) = _ := hf (a := .lit (.pointer none)) (by simp [Op.operands]) rfl
    have e3 : (binOp .neq t (.pointer A) (.pointer none)).run P w = .ok (.bool (!A.isNone)) w := by simp only [binOp, Op.equal, Op.maxDepth, Sem.run_bind, run_eqIn_np w 9999 ht, Result.andThen_ok, Sem.run_pure]
    exact ⟨.bool (!q), by simp [execOp, ho, e1, e2, e3, hA, Sem.run_bind, eqGuard], rfl⟩
end
/-! ### append to a nil that is written out -/
section
variable {P : Program} {f : FuncId} {n : Nat} {ops : Array Oper} {l : List Oper} {k : List Item} {fr : Fr} {ρ R : Type} {x : Option ρ} {X : ρ → Option R} {K : R → AV → List Res → Prop} {ty t e : TypeId} {d : Nat} {pos : String} {aft : Array Edge} {T : Type} {c : Co T}
theorem sApC {u : Operand} {ys : List T} {z : Value} {bytes : Nat} (ht : P.underlying t = some (.slice e)) (hinfo : Info P e z c.sz bytes) (hzs : z.cells.size = c.sz) (hu : arg fr u = some (.fsl c ys)) (hb : ys.length * bytes ≤ 140737488355328) (hb0 : Nat.blt 0 bytes = true) (hdn : Nat.blt d n = true)
    (h : ∀ v', SimL P f n ops l k ((d, .sv v') :: fr) (.own e c v' ys :: H) x X K) : SimL P f n ops (⟨some d, .call ⟨.builtin .append, #[.const (.slice none 0 0), u], #[t, t]⟩, ty, pos, aft, none⟩ :: l) k fr H x X K := by
  refine sEff (I := Value) (fun o ho hty w0 F0 Z0 w F Z ρ hinv hf => ?_) hdn h
  have e1 : ρ (.const (.slice none 0 0)) = _ := hf (a := .lit (.slice none 0 0)) (by simp [Op.operands, Call.operands]) rfl
  have e2 := cells_fsl (hf (by simp [Op.operands, Call.operands]) hu)
  have hinv' : Inv w0 w F0 Z0 F Z (.own e c (.slice none 0 0) ([] : List T) :: H) := ⟨hinv.base, hinv.z0, hinv.zin, hinv.fin, fun _ => False, F, .inr ⟨rfl, none, rfl⟩, hinv.res, fun b hb => hb.elim, fun b hb => hb⟩
  obtain ⟨v', w', F', hr, hi', hk, hsl⟩ := append_own (ty := ty) (j := 0) hinv' ht hinfo hzs rfl e2 (by simpa using hb) (by simpa [Nat.blt_eq] using hb0)
  rw [List.nil_append, List.set_cons_zero] at hi'
  exact ⟨v', w', v', F', Z, by simp [execOp, ho, hty, e1, hr, resolve, invoke, builtin, Sem.run_bind], hi', fun _ x => x, hk, rfl, hsl⟩
end
end S
end Go.Proofs.Ytpjhcllohagjoaa
