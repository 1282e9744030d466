import Derived.Test.YtflbjhfklhidjaaSH
import Derived.Laws.ComplexArith
namespace Go.Proofs.Ytflbjhfklhidjaa
namespace S
open Go.RowKit
set_option linter.unusedVariables false
set_option linter.unusedSimpArgs false
section
variable {P : Program} {w : World}
theorem eqF_step {d : Nat} {xs ys : Array Value} {f : Field} {fs : List Field} {a b : Value} {r : Bool} (hn : f.name ≠ "_") (hx : (part f.type xs f.offset).run P w = .ok a w) (hy : (part f.type ys f.offset).run P w = .ok b w) (he : (Op.equalIn d f.type a b).run P w = .ok r w) :
    (Op.eqFields d xs ys (f :: fs)).run P w = if r = true then (Op.eqFields d xs ys fs).run P w else .ok false w := by
  simp only [Op.eqFields, if_pos hn, Sem.run_bind, hx, hy, he, Result.andThen_ok, Sem.run_ite, Sem.run_pure]
  cases r <;> simp
theorem eqF_int {d : Nat} {xs ys : List Value} {f : Field} {fs : List Field} {k k' : IntKind} {a b : Int} (hn : f.name ≠ "_") (hg : IsAgg P f.type false) (ht : P.underlying f.type = some (.int k')) (hx : xs[f.offset]? = some (.int k a)) (hy : ys[f.offset]? = some (.int k b)) :
    (Op.eqFields (d + 1) xs.toArray ys.toArray (f :: fs)).run P w = if a = b then (Op.eqFields (d + 1) xs.toArray ys.toArray fs).run P w else .ok false w := by
  rw [eqF_step hn (part_one hg hx) (part_one hg hy) (run_equalIn_int w d _ _ _ _ _ ht)]
  simp
theorem eqF_bool {d : Nat} {xs ys : List Value} {f : Field} {fs : List Field} {a b : Bool} (hn : f.name ≠ "_") (hg : IsAgg P f.type false) (ht : P.underlying f.type = some .bool) (hx : xs[f.offset]? = some (.bool a)) (hy : ys[f.offset]? = some (.bool b)) :
    (Op.eqFields (d + 1) xs.toArray ys.toArray (f :: fs)).run P w = if a = b then (Op.eqFields (d + 1) xs.toArray ys.toArray fs).run P w else .ok false w := by
  rw [eqF_step hn (part_one hg hx) (part_one hg hy) (run_equalIn_bool' w d _ _ _ ht)]
  simp
theorem eqF_str {d : Nat} {xs ys : List Value} {f : Field} {fs : List Field} {a b : ByteArray} (hn : f.name ≠ "_") (hg : IsAgg P f.type false) (ht : P.underlying f.type = some .string) (hx : xs[f.offset]? = some (.string a)) (hy : ys[f.offset]? = some (.string b)) :
    (Op.eqFields (d + 1) xs.toArray ys.toArray (f :: fs)).run P w = if a = b then (Op.eqFields (d + 1) xs.toArray ys.toArray fs).run P w else .ok false w := by
  rw [eqF_step hn (part_one hg hx) (part_one hg hy) (run_equalIn_string w d _ _ _ ht), bytes_beq']
  simp
theorem eqF_agg {d k : Nat} {xs ys : List Value} {f : Field} {fs : List Field} {us vs : List Value} {p : Prop} [Decidable p] (hn : f.name ≠ "_") (hg : IsAgg P f.type true) (hs : SizeIs P f.type k) (hx : (xs.drop f.offset).take k = us) (hy : (ys.drop f.offset).take k = vs) (he : (Op.equalIn d f.type (.agg us.toArray) (.agg vs.toArray)).run P w = .ok (decide p) w) :
    (Op.eqFields d xs.toArray ys.toArray (f :: fs)).run P w = if p then (Op.eqFields d xs.toArray ys.toArray fs).run P w else .ok false w := by
  subst hx hy
  rw [eqF_step hn (part_agg hg hs) (part_agg hg hs) he]
  simp
theorem eqF_nil {d : Nat} {xs ys : Array Value} : (Op.eqFields d xs ys []).run P w = .ok (decide True) w := by simp [Op.eqFields]
theorem ok_ite {p : Prop} [Decidable p] {q : Prop} [Decidable q] : (if p then (Result.ok (decide q) w : Result Bool) else .ok false w) = .ok (decide (p ∧ q)) w := by
  by_cases hp : p <;> simp [hp]

theorem allp_lits {Z : Nat → Prop} : ∀ {vs us : List Value}, AllP Z w (vs.map AV.lit) us → us = vs
  | [], _, .nil => rfl
  | v :: vs, _, .cons h hs => by rw [show _ = v from h, allp_lits hs]

variable {n : Nat} {fr : Fr} {H : List Res} {t t' ty : TypeId} {a b : Operand}
theorem dEqSt {T : Type} [DecidableEq T] {c : Co T} {x y : T} (vs : T → List Value) (hm : P.eqGuardType P.depth t = false) (hv : ∀ x, c.e x = (vs x).map AV.lit) (he : ∀ w x y, (Op.equalIn 10000 t (.agg (vs x).toArray) (.agg (vs y).toArray)).run P w = .ok (decide (x = y)) w) (hx : arg fr a = some (.agg (c.e x))) (hy : arg fr b = some (.agg (c.e y))) : D P n H (.binOp .eql t a b t') ty fr (Ab (decide (x = y))) :=
  .of fun o ho hty w Z F ρ _ hf => by
    obtain ⟨us, e1, h1⟩ := hf (by simp [Op.operands]) hx
    obtain ⟨ws, e2, h2⟩ := hf (by simp [Op.operands]) hy
    rw [hv] at h1 h2
    have := allp_lits h1
    subst this
    have := allp_lits h2
    subst this
    exact ⟨.bool (decide (x = y)), by simp only [execOp, ho, e1, e2, Sem.run_bind, run_eqGuard_agg w _ _ _ _ _ _ hm, Result.andThen_ok, run_eql_struct, he, Sem.run_pure], rfl⟩
theorem dNeSt {T : Type} [DecidableEq T] {c : Co T} {x y : T} (vs : T → List Value) (hm : P.eqGuardType P.depth t = false) (hv : ∀ x, c.e x = (vs x).map AV.lit) (he : ∀ w x y, (Op.equalIn 10000 t (.agg (vs x).toArray) (.agg (vs y).toArray)).run P w = .ok (decide (x = y)) w) (hx : arg fr a = some (.agg (c.e x))) (hy : arg fr b = some (.agg (c.e y))) : D P n H (.binOp .neq t a b t') ty fr (Ab (decide (x ≠ y))) :=
  .of fun o ho hty w Z F ρ _ hf => by
    obtain ⟨us, e1, h1⟩ := hf (by simp [Op.operands]) hx
    obtain ⟨ws, e2, h2⟩ := hf (by simp [Op.operands]) hy
    rw [hv] at h1 h2
    have := allp_lits h1
    subst this
    have := allp_lits h2
    subst this
    refine ⟨.bool (!decide (x = y)), by simp only [execOp, ho, e1, e2, Sem.run_bind, run_eqGuard_agg w _ _ _ _ _ _ hm, Result.andThen_ok, run_neq_struct, he, Sem.run_pure], ?_⟩
    show Value.bool _ = _
    rw [decide_not]
end
end S
end Go.Proofs.Ytflbjhfklhidjaa
