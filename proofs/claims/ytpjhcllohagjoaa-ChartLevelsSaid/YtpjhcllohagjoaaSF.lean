/-
  Sim, the sixth text: calls; structs and slices that are written out. Own work; no claim stands here.
-/
import Derived.Test.YtpjhcllohagjoaaSE
namespace Go.Proofs.Ytpjhcllohagjoaa
namespace S
open Go.RowKit
set_option linter.unusedVariables false
set_option linter.unusedSimpArgs false

/-- That a call of this function enters its Go text. -/
def Ent (P : Program) (g : FuncId) : Prop := ∀ args w, (callFunc g args).run P w = .ok (.enter g args) w

/-- What is told of a value hangs on no memory. -/
def Flat (a : AV) : Prop := ∀ Z w Z' w' v, a.p Z w v → a.p Z' w' v
theorem flLit {v : Value} : Flat (.lit v) := fun _ _ _ _ _ h => h
def FlatL : List AV → Prop
  | [] => True
  | a :: as => Flat a ∧ FlatL as
theorem flL {as : List AV} (h : FlatL as) {Z w Z' w'} {vs : List Value} (hv : AllP Z w as vs) : AllP Z' w' as vs := by
  induction hv with
  | nil => exact .nil
  | cons h1 _ ih => exact .cons (h.1 _ _ _ _ _ h1) (ih h.2)
theorem flTup {as : List AV} (h : FlatL as) : Flat (.tup as) := fun Z w Z' w' _ ⟨vs, e, h1⟩ => ⟨vs, e, flL h h1⟩
theorem flAgg {as : List AV} (h : FlatL as) : Flat (.agg as) := fun Z w Z' w' _ ⟨vs, e, h1⟩ => ⟨vs, e, flL h h1⟩
theorem flAny : Flat .any := fun _ _ _ _ _ _ => trivial

section
variable {P : Program} {f : FuncId} {n : Nat} {ops : Array Oper} {l : List Oper} {k : List Item} {fr : Fr} {H : List Res} {ρ R : Type} {x : Option ρ} {X : ρ → Option R} {K : R → AV → List Res → Prop} {ty t t' e : TypeId} {d : Nat} {pos : String} {aft : Array Edge}

/-- What goes into a call: slots, or what is owned, lent to be read. -/
inductive Args (fr : Fr) (H : List Res) : List Operand → List AV → Prop
  | nil : Args fr H [] []
  | s {x : Operand} {a : AV} {xs : List Operand} {as : List AV} : arg fr x = some a → Args fr H xs as → Args fr H (x :: xs) (a :: as)
  | o {T : Type} {x : Operand} {t : TypeId} {c : Co T} {v : Value} {ys : List T} {xs : List Operand} {as : List AV} (j : Nat) : arg fr x = some (.sv v) → H[j]? = some (.own t c v ys) → Args fr H xs as → Args fr H (x :: xs) (.fsl c ys :: as)
  | z {T : Type} {x : Operand} {c : Co T} {v : Value} {ys : List T} {xs : List Operand} {as : List AV} (j : Nat) : arg fr x = some (.sv v) → H[j]? = some (.fz c v ys) → Args fr H xs as → Args fr H (x :: xs) (.fsl c ys :: as)
  | b {x : Operand} {b : Nat} {cs : List AV} {xs : List Operand} {as : List AV} (j : Nat) : arg fr x = some (.lit (.pointer (some ⟨b, 0, none⟩))) → H[j]? = some (.box b cs) → Args fr H xs as → Args fr H (x :: xs) (.fptr cs :: as)
  | n {T : Type} {x : Operand} (c : Co T) {xs : List Operand} {as : List AV} : arg fr x = some (.lit (.slice none 0 0)) → Args fr H xs as → Args fr H (x :: xs) (.fsl c [] :: as)
  | g {x : Operand} {a0 a : AV} {xs : List Operand} {as : List AV} : arg fr x = some a0 → (∀ {Z F : Nat → Prop} {w : World} {u : Value}, HAll H Z w F → a0.p Z w u → a.p (fun b => Z b ∨ F b) w u) → Args fr H xs as → Args fr H (x :: xs) (a :: as)

theorem nil_fsl {T : Type} (c : Co T) (Z : Nat → Prop) (w : World) : (AV.fsl c ([] : List T)).p Z w (.slice none 0 0) := ⟨none, 0, rfl, by simp, by intro i x hx; simp at hx⟩

theorem args_ok {xs : List Operand} {as : List AV} (h : Args fr H xs as) {Z F : Nat → Prop} {w : World} {ρ : Operand → Value} (hH : HAll H Z w F) (hf : ∀ {x : Operand} {a : AV}, x ∈ xs → arg fr x = some a → a.p Z w (ρ x)) : AllP (fun b => Z b ∨ F b) w as (xs.map ρ) := by
  have hzz : ∀ b, Z b → Z b ∨ F b := fun _ x => .inl x
  induction h with
  | nil => exact .nil
  | s hx _ ih => exact .cons (AV.st _ hzz (Keep.refl _ _) (hf (by simp) hx)) (ih fun hm hx => hf (by simp [hm]) hx)
  | o j hx hj _ ih =>
    refine .cons ?_ (ih fun hm hx => hf (by simp [hm]) hx)
    obtain ⟨e1, _⟩ := hf (by simp) hx
    obtain ⟨F1, h1, hF⟩ := hH.at hj
    rw [e1]
    exact AV.st _ (fun b hb => hb.imp id (hF b)) (Keep.refl _ _) (own_fsl h1)
  | z j hx hj _ ih =>
    refine .cons ?_ (ih fun hm hx => hf (by simp [hm]) hx)
    obtain ⟨e1, _⟩ := hf (by simp) hx
    obtain ⟨F1, h1, hF⟩ := hH.at hj
    rw [e1]
    exact AV.st _ hzz (Keep.refl _ _) h1
  | b j hx hj _ ih =>
    refine .cons ?_ (ih fun hm hx => hf (by simp [hm]) hx)
    have e1 : ρ _ = _ := hf (by simp) hx
    obtain ⟨F1, ⟨hb, vs, t', h1, h2⟩, hF⟩ := hH.at hj
    rw [e1]
    exact ⟨_, rfl, .inr (hF _ hb), vs, h2.st hzz (Keep.refl _ _), fun i u hu => by rw [Addr.add_lit, cell_of_row _ _ _ _ _ _ h1]; simpa using hu⟩
  | n c hx _ ih =>
    refine .cons ?_ (ih fun hm hx => hf (by simp [hm]) hx)
    have e1 : ρ _ = _ := hf (by simp) hx
    rw [e1]; exact nil_fsl c _ _
  | g hx hg _ ih => exact .cons (hg hH (hf (by simp) hx)) (ih fun hm hx => hf (by simp [hm]) hx)

/-- The nil slice, to be read. -/
theorem sNF {T : Type} {todo : List Item} (u : Nat) (c : Co T) (hu : look fr u = some (.lit (.slice none 0 0))) (h : Sim P f n todo ((u, .fsl c []) :: fr) H x X K) : Sim P f n todo fr H x X K := by
  intro r hr w0 F0 Z0 w F Z tmps hn hi hf
  refine h r hr w0 F0 Z0 w F Z tmps hn hi fun t a ht => ?_
  simp only [look] at ht
  by_cases e : u = t
  · subst e; simp at ht; subst ht
    have h2 : tmps.getD u undef = _ := hf u _ hu
    rw [h2]; exact nil_fsl c _ _
  · have : (u == t) = false := by simpa using e
    rw [this] at ht; exact hf t a (by simpa using ht)
theorem sNFL {T : Type} (u : Nat) (c : Co T) (hu : look fr u = some (.lit (.slice none 0 0))) (h : SimL P f n ops l k ((u, .fsl c []) :: fr) H x X K) : SimL P f n ops l k fr H x X K := fun is hs => sNF u c hu (h is hs)

theorem call_run {o : Oper} {g : FuncId} {args : Array Operand} {ts : Array TypeId} {w : World} {ρ : Operand → Value} (hρ : ∀ f, ρ (.func f) = .func (.func f) #[] #[]) (ho : o.op = .call ⟨.value (.func g), args, ts⟩) (hg : Ent P g) : (execOp ρ o).run P w = .ok (.enter g (args.toList.map ρ).toArray) w := by
  have := hg (args.map ρ) w
  simp only [execOp, ho, resolve, hρ, Deferred.ofValue, invoke, Sem.run_bind, Sem.run_pure, Result.andThen_ok, Array.append_empty, this, Array.empty_append]
  congr 2
  apply Array.ext'
  simp

/-- Slots alone go in, none of what is owned: the callee's result may share memory with them. -/
inductive ArgsS (fr : Fr) : List Operand → List AV → Prop
  | nil : ArgsS fr [] []
  | s {x : Operand} {a : AV} {xs : List Operand} {as : List AV} : arg fr x = some a → ArgsS fr xs as → ArgsS fr (x :: xs) (a :: as)
  | n {T : Type} {x : Operand} (c : Co T) {xs : List Operand} {as : List AV} : arg fr x = some (.lit (.slice none 0 0)) → ArgsS fr xs as → ArgsS fr (x :: xs) (.fsl c [] :: as)

theorem argsS_ok {xs : List Operand} {as : List AV} (h : ArgsS fr xs as) {Z : Nat → Prop} {w : World} {ρ : Operand → Value} (hf : ∀ {x : Operand} {a : AV}, x ∈ xs → arg fr x = some a → a.p Z w (ρ x)) : AllP Z w as (xs.map ρ) := by
  induction h with
  | nil => exact .nil
  | s hx _ ih => exact .cons (hf (by simp) hx) (ih fun hm hx => hf (by simp [hm]) hx)
  | n c hx _ ih =>
    refine .cons ?_ (ih fun hm hx => hf (by simp [hm]) hx)
    have e1 : ρ _ = _ := hf (by simp) hx
    rw [e1]; exact nil_fsl c _ _

theorem inv_enter {w0 w : World} {F0 Z0 F Z : Nat → Prop} (h : Inv w0 w F0 Z0 F Z H) : Inv w w (fun _ => False) Z (fun _ => False) Z [] :=
  ⟨Base.refl _ _, fun _ x => x, fun b hb => ⟨(h.zin b hb).1, .inl hb⟩, fun _ x => x.elim, trivial⟩

/-- A call of a function that owns and writes nothing. -/
theorem dCall {g : FuncId} {args : Array Operand} {ts : Array TypeId} {avs : List AV} {Q : Type} {y : Option Q} {en : Q → AV} {r : Q} (hg : Ent P g) (hp : Pure P g avs y en) (hy : y = some r) (ha : ArgsS fr args.toList avs) : D P n H (.call ⟨.value (.func g), args, ts⟩) ty fr (en r) := by
  intro o ho hty w0 F0 Z0 w F Z tmps hn hi hf
  have hargs := argsS_ok (ρ := (⟨tmps, []⟩ : Act).eval) ha fun {x a} hm hx => arg_ok hf hx (by simp [Op.operands, Call.operands]; exact .inr (by simpa using hm))
  refine .inr ⟨g, _, w, _, call_run (fun _ => rfl) ho hg, hp r hy w (fun _ => False) Z _ hargs (inv_enter hi), ?_⟩
  rintro e w'' ⟨v, rfl, F', Z', av, H', ⟨rfl, rfl⟩, hinv, hv⟩
  refine ⟨v, rfl, Z', hinv.z0, fun b hb => ?_, ⟨hinv.base.os, hinv.base.tape, hinv.base.output, hinv.base.drawn, hinv.base.size, fun b hb _ => hinv.base.keep b hb id⟩, hv⟩
  have := hinv.zin b hb
  exact this.2.elim .inl fun y => y.elim (fun z => z.elim) fun z => .inr ⟨z, this.1⟩

/-- The same, where what is owned is lent to be read: the result must hang on no memory. -/
theorem dCallB {g : FuncId} {args : Array Operand} {ts : Array TypeId} {avs : List AV} {Q : Type} {y : Option Q} {en : Q → AV} {r : Q} (hg : Ent P g) (hp : Pure P g avs y en) (hy : y = some r) (hfl : Flat (en r)) (ha : Args fr H args.toList avs) : D P n H (.call ⟨.value (.func g), args, ts⟩) ty fr (en r) := by
  intro o ho hty w0 F0 Z0 w F Z tmps hn hi hf
  have hargs := args_ok (ρ := (⟨tmps, []⟩ : Act).eval) ha hi.res fun {x a} hm hx => arg_ok hf hx (by simp [Op.operands, Call.operands]; exact .inr (by simpa using hm))
  refine .inr ⟨g, _, w, _, call_run (fun _ => rfl) ho hg, hp r hy w (fun _ => False) (fun b => Z b ∨ F b) _ hargs ⟨Base.refl _ _, fun _ x => x, fun b hb => ⟨hb.elim (fun x => (hi.zin b x).1) (fun x => (hi.fin b x).1), .inl hb⟩, fun _ x => x.elim, trivial⟩, ?_⟩
  rintro e w'' ⟨v, rfl, F', Z', av, H', ⟨rfl, rfl⟩, hinv, hv⟩
  exact ⟨v, rfl, Z, fun _ x => x, fun _ x => .inl x, ⟨hinv.base.os, hinv.base.tape, hinv.base.output, hinv.base.drawn, hinv.base.size, fun b hb _ => hinv.base.keep b hb id⟩, hfl _ _ _ _ _ hv⟩

theorem HAll.append {H' : List Res} {Z F F' : Nat → Prop} {w : World} (h : HAll H Z w F) (h' : HAll H' Z w F') (hd : ∀ b, F b → ¬ F' b) : HAll (H ++ H') Z w (fun b => F b ∨ F' b) := by
  induction H generalizing F with
  | nil => exact h'.wide fun _ x => .inr x
  | cons r rs ih =>
    obtain ⟨F1, F2, h1, h2, d1, d2⟩ := h
    refine ⟨F1, fun b => F2 b ∨ F' b, h1, ih h2 (fun b hb => hd b (d2 b hb)), fun b hb => ⟨.inl (d1 b hb).1, fun y => y.elim (d1 b hb).2 (hd b (d1 b hb).1)⟩, fun b hb => hb.imp (d2 b) id⟩

/-- A call whose result is memory of its own: what comes back is owned. -/
def Fresh (P : Program) (g : FuncId) (avs : List AV) {Q : Type} (y : Option Q) (A : Q → List Value → AV) (B : Q → List Value → List Res) : Prop := ∀ r, y = some r → Spec P g avs [] fun a H => ∃ vs, a = A r vs ∧ H = B r vs

theorem sCallF {g : FuncId} {args : Array Operand} {ts : Array TypeId} {avs : List AV} {Q : Type} {y : Option Q} {A : Q → List Value → AV} {B : Q → List Value → List Res} {r : Q} (hg : Ent P g) (hp : Fresh P g avs y A B) (hy : y = some r) (ha : ArgsS fr args.toList avs) (hdn : Nat.blt d n = true)
    (h : ∀ vs, SimL P f n ops l k ((d, A r vs) :: fr) (B r vs ++ H) x X K) : SimL P f n ops (⟨some d, .call ⟨.value (.func g), args, ts⟩, ty, pos, aft, none⟩ :: l) k fr H x X K := by
  intro is hs r' hr w0 F0 Z0 w F Z tmps hn hi hf
  cases is with
  | nil => simp at hs
  | cons i is =>
    simp only [List.map_cons, List.cons.injEq] at hs
    have hdn' : d < n := by simpa [Nat.blt_eq] using hdn
    have hargs := argsS_ok (ρ := (⟨tmps, []⟩ : Act).eval) ha fun {x a} hm hx => by
      cases x with
      | tmp t => exact hf t a hx
      | const v => simp [arg] at hx; subst hx; rfl
      | func g => simp [arg] at hx; subst hx; rfl
      | global g => simp [arg] at hx; subst hx; rfl
    refine .enter hs.1 (wanted_none rfl) (call_run (fun _ => rfl) rfl hg) (hp r hy w (fun _ => False) Z _ hargs (inv_enter hi)) ?_
    rintro e w'' ⟨v, rfl, F', Z', av, H', ⟨vs, rfl, rfl⟩, hinv, hv⟩
    refine ⟨v, rfl, ?_⟩
    have s : Step w w'' (fun _ => False) := ⟨hinv.base.os, hinv.base.tape, hinv.base.output, hinv.base.drawn, hinv.base.size, fun b hb _ => hinv.base.keep b hb id⟩
    have hk := s.keep' hi
    refine h vs is hs.2 r' hr w0 F0 Z0 w'' (fun b => F' b ∨ F b) Z' _ (by simpa [putT] using hn) ?_ ((hf.st hinv.z0 hk).put (by omega) hv)
    refine hi.step s (fun _ x => x.elim) hinv.z0 (fun b hb => ?_) (fun b hb => ?_) (hinv.res.append (hi.res.st hinv.z0 fun b hb => s.keep b (hb.elim (fun x => (hi.zin b x).1) (fun x => (hi.fin b x).1)) id) fun b hb hF => ?_)
    · have := hinv.zin b hb
      exact this.2.elim .inl fun y => y.elim (fun z => z.elim) fun z => .inr (.inr ⟨z, this.1⟩)
    · rcases hb with hb | hb
      · have := hinv.fin b hb
        exact ⟨this.2.1.elim (fun z => z.elim) fun z => .inr ⟨z, this.1⟩, this.2.2⟩
      · refine ⟨.inl hb, fun hz => ?_⟩
        have := hinv.zin b hz
        rcases this.2 with y | y | y
        · exact (hi.fin b hb).2.2 y
        · exact y
        · have := (hi.fin b hb).1; omega
    · have := hinv.fin b hb
      rcases this.2.1 with y | y
      · exact y
      · have := (hi.fin b hF).1; omega

/-- A contract that lends no memory of the callee's is one that hands it over to be read. -/
theorem Pure.of {g : FuncId} {avs : List AV} {Q : Type} {y : Option Q} {en : Q → AV} (h : ∀ r, y = some r → Spec P g avs [] fun a H => a = en r ∧ H = []) : Pure P g avs y en := h

/-! ### Return -/
def rvRun (rv : ResultVar) (tmps : Array Value) : Sem Value := match rv with
  | .tmp t => pure (tmps.getD t undef)
  | .cell a t => do loadVar t (← asAddr (tmps.getD a undef))
theorem results1 {fn : Func} {r1 : ResultVar} (h : fn.results = #[r1]) {tmps : Array Value} {w : World} {v1 : Value} (h1 : (rvRun r1 tmps).run P w = .ok v1 w) : (results fn tmps).run P w = .ok v1 w := by
  have : results fn tmps = (do let vs ← (#[r1] : Array ResultVar).mapM (fun rv => rvRun rv tmps); pure (if h : vs.size = 1 then vs[0] else .tuple vs)) := by rw [← h]; rfl
  rw [this]; simp [h1, Sem.run_bind, go_sem]
theorem results2 {fn : Func} {r1 r2 : ResultVar} (h : fn.results = #[r1, r2]) {tmps : Array Value} {w : World} {v1 v2 : Value} (h1 : (rvRun r1 tmps).run P w = .ok v1 w) (h2 : (rvRun r2 tmps).run P w = .ok v2 w) : (results fn tmps).run P w = .ok (.tuple #[v1, v2]) w := by
  have : results fn tmps = (do let vs ← (#[r1, r2] : Array ResultVar).mapM (fun rv => rvRun rv tmps); pure (if h : vs.size = 1 then vs[0] else .tuple vs)) := by rw [← h]; rfl
  rw [this]; simp [h1, h2, Sem.run_bind, go_sem]
theorem results3 {fn : Func} {r1 r2 r3 : ResultVar} (h : fn.results = #[r1, r2, r3]) {tmps : Array Value} {w : World} {v1 v2 v3 : Value} (h1 : (rvRun r1 tmps).run P w = .ok v1 w) (h2 : (rvRun r2 tmps).run P w = .ok v2 w) (h3 : (rvRun r3 tmps).run P w = .ok v3 w) : (results fn tmps).run P w = .ok (.tuple #[v1, v2, v3]) w := by
  have : results fn tmps = (do let vs ← (#[r1, r2, r3] : Array ResultVar).mapM (fun rv => rvRun rv tmps); pure (if h : vs.size = 1 then vs[0] else .tuple vs)) := by rw [← h]; rfl
  rw [this]; simp [h1, h2, h3, Sem.run_bind, go_sem]
theorem results0 {fn : Func} (h : fn.results = #[]) {tmps : Array Value} {w : World} : (results fn tmps).run P w = .ok (.tuple #[]) w := by
  simp [results, h, go_sem]

def RetA (P : Program) (fr : Fr) (H : List Res) (rv : ResultVar) (a : AV) : Prop := ∀ (Z F : Nat → Prop) (w : World) (tmps : Array Value), HAll H Z w F → FrOk fr Z w tmps → ∃ v, (rvRun rv tmps).run P w = .ok v w ∧ a.p Z w v
theorem rT {u : Nat} {a : AV} (hu : look fr u = some a) : RetA P fr H (.tmp u) a := fun Z F w tmps _ hf => ⟨_, rfl, hf u a hu⟩
theorem rC {u b j m : Nat} {as : List AV} (hg : IsAgg P t true) (hs : SizeIs P t m) (hu : look fr u = some (.lit (.pointer (some ⟨b, 0, none⟩)))) (hj : H[j]? = some (.box b as)) (hm : as.length = m) : RetA P fr H (.cell u t) (.agg as) := fun Z F w tmps hH hf => by
  obtain ⟨F1, ⟨hb, vs, t', h1, h2⟩, _⟩ := hH.at hj
  have e1 : tmps.getD u undef = _ := hf u _ hu
  have hl := h2.length
  have := load_agg (P := P) (t := t) (a := ⟨b, 0, none⟩) (vs := vs) (w := w) hg hs (by omega) (fun i u hu => by rw [Addr.add_lit, cell_of_row _ _ _ _ _ _ h1]; simpa using hu)
  refine ⟨.agg vs.toArray, ?_, vs, rfl, h2⟩
  simp only [Instr.loadAt, Instr.sureAddr, Sem.run_bind, Sem.run_pure, Result.andThen_ok] at this
  simp only [rvRun, e1, asAddr, Sem.run_bind, Sem.run_pure, Result.andThen_ok, this]
theorem rC1 {u b j : Nat} {a : AV} {as : List AV} (hg : IsAgg P t false) (hu : look fr u = some (.lit (.pointer (some ⟨b, 0, none⟩)))) (hj : H[j]? = some (.box b as)) (ha : as[0]? = some a) : RetA P fr H (.cell u t) a := fun Z F w tmps hH hf => by
  obtain ⟨F1, ⟨hb, vs, t', h1, h2⟩, _⟩ := hH.at hj
  have e1 : tmps.getD u undef = _ := hf u _ hu
  obtain ⟨v, hv, hp⟩ := h2.get ha
  have := load_one (P := P) (t := t) (a := ⟨b, 0, none⟩) (v := v) (w := w) hg (by rw [cell_of_row _ _ _ _ _ _ h1]; simpa using hv)
  refine ⟨v, ?_, hp⟩
  simp only [Instr.loadAt, Instr.sureAddr, Sem.run_bind, Sem.run_pure, Result.andThen_ok] at this
  simp only [rvRun, e1, asAddr, Sem.run_bind, Sem.run_pure, Result.andThen_ok, this]

theorem sRet1 (js : List Nat) {fn : Func} {r1 : ResultVar} {a : AV} {q : R} (hf : P.funcs[f]? = some fn) (hr : fn.results = #[r1]) (h1 : RetA P fr H r1 a) (hK : K q a (S.dropAll H js)) : Sim P f n (.code .ret :: k) fr H (some q) some K := by
  intro r hq w0 F0 Z0 w F Z tmps hn hi hfr
  cases hq
  obtain ⟨v1, e1, p1⟩ := h1 Z F w tmps hi.res hfr
  exact .ret hf (results1 hr e1) ⟨F, Z, a, _, hK, hi.less (·.dropAll js), p1⟩
theorem sRet2 (js : List Nat) {fn : Func} {r1 r2 : ResultVar} {a b : AV} {q : R} (hf : P.funcs[f]? = some fn) (hr : fn.results = #[r1, r2]) (h1 : RetA P fr H r1 a) (h2 : RetA P fr H r2 b) (hK : K q (.tup [a, b]) (S.dropAll H js)) : Sim P f n (.code .ret :: k) fr H (some q) some K := by
  intro r hq w0 F0 Z0 w F Z tmps hn hi hfr
  cases hq
  obtain ⟨v1, e1, p1⟩ := h1 Z F w tmps hi.res hfr
  obtain ⟨v2, e2, p2⟩ := h2 Z F w tmps hi.res hfr
  exact .ret hf (results2 hr e1 e2) ⟨F, Z, _, _, hK, hi.less (·.dropAll js), [v1, v2], rfl, .cons p1 (.cons p2 .nil)⟩
theorem sRet3 (js : List Nat) {fn : Func} {r1 r2 r3 : ResultVar} {a b c : AV} {q : R} (hf : P.funcs[f]? = some fn) (hr : fn.results = #[r1, r2, r3]) (h1 : RetA P fr H r1 a) (h2 : RetA P fr H r2 b) (h3 : RetA P fr H r3 c) (hK : K q (.tup [a, b, c]) (S.dropAll H js)) : Sim P f n (.code .ret :: k) fr H (some q) some K := by
  intro r hq w0 F0 Z0 w F Z tmps hn hi hfr
  cases hq
  obtain ⟨v1, e1, p1⟩ := h1 Z F w tmps hi.res hfr
  obtain ⟨v2, e2, p2⟩ := h2 Z F w tmps hi.res hfr
  obtain ⟨v3, e3, p3⟩ := h3 Z F w tmps hi.res hfr
  exact .ret hf (results3 hr e1 e2 e3) ⟨F, Z, _, _, hK, hi.less (·.dropAll js), [v1, v2, v3], rfl, .cons p1 (.cons p2 (.cons p3 .nil))⟩
theorem sRet0 (js : List Nat) {fn : Func} {q : R} (hf : P.funcs[f]? = some fn) (hr : fn.results = #[]) (hK : K q .any (S.dropAll H js)) : Sim P f n (.code .ret :: k) fr H (some q) some K := by
  intro r hq w0 F0 Z0 w F Z tmps hn hi hfr
  cases hq
  exact .ret hf (results0 hr) ⟨F, Z, _, _, hK, hi.less (·.dropAll js), trivial⟩
theorem sFin0 {fn : Func} {q : R} (hf : P.funcs[f]? = some fn) (hr : fn.results = #[]) (hK : K q .any H) : Sim P f n [] fr H (some q) some K := by
  intro r hq w0 F0 Z0 w F Z tmps hn hi hfr
  cases hq
  exact .fin hf (results0 hr) ⟨F, Z, _, H, hK, hi, trivial⟩

/-! ### Written out -/
/-- The cells of parts, laid over others. -/
inductive Parts (fr : Fr) (pl : Nat → Option (Nat × Nat)) : List AV → List (Nat × Operand) → List AV → Prop
  | nil {as : List AV} : Parts fr pl as [] as
  | c {as bs cs : List AV} {i off sz : Nat} {x : Operand} {a : AV} {ps : List (Nat × Operand)} : pl i = some (off, sz) → arg fr x = some a → CellsOf a bs → bs.length = sz → Nat.ble (off + sz) as.length = true → Parts fr pl (splice as off bs) ps cs → Parts fr pl as ((i, x) :: ps) cs

theorem foldl_splice (vs us : List Value) (o : Nat) (h : o + us.length ≤ vs.length) : (us.toArray.zipIdx.foldl (fun (cs : Array Value) (x : Value × Nat) => cs.setIfInBounds (o + x.2) x.1) vs.toArray) = (vs.take o ++ us ++ vs.drop (o + us.length)).toArray := by
  have key : ∀ (us : List Value) (i : Nat) (vs : List Value), o + i + us.length ≤ vs.length → (us.zipIdx i).foldl (fun (cs : Array Value) (x : Value × Nat) => cs.setIfInBounds (o + x.2) x.1) vs.toArray = (vs.take (o + i) ++ us ++ vs.drop (o + i + us.length)).toArray := by
    intro us
    induction us with
    | nil => intro i vs h; simp
    | cons u us ih =>
      intro i vs h
      simp only [List.zipIdx_cons, List.foldl_cons, List.setIfInBounds_toArray]
      rw [ih (i + 1) (vs.set (o + i) u) (by simp at h ⊢; omega)]
      congr 1
      apply List.ext_getElem?
      intro q
      simp only [List.length_cons] at h ⊢
      simp only [List.getElem?_append, List.getElem?_take, List.getElem?_drop, List.length_append, List.length_take, List.length_set, List.getElem?_set]
      have e1 : min (o + (i + 1)) vs.length = o + i + 1 := by omega
      have e2 : min (o + i) vs.length = o + i := by omega
      simp only [e1, e2]
      by_cases h1 : q < o + i
      · have a1 : q < o + i + 1 + us.length := by omega
        have a2 : q < o + i + 1 := by omega
        have a3 : q < o + i + (us.length + 1) := by omega
        have a4 : q < o + (i + 1) := by omega
        have a5 : ¬ o + i = q := by omega
        simp [*]
      · by_cases h2 : q = o + i
        · subst h2
          have a1 : o + i < o + i + 1 + us.length := by omega
          have a2 : o + i < o + (i + 1) := by omega
          have a3 : o + i < vs.length := by omega
          simp [*]
        · by_cases h3 : q < o + i + 1 + us.length
          · have a1 : ¬ q < o + i + 1 := by omega
            have a2 : q < o + i + (us.length + 1) := by omega
            have a3 : q - (o + i) = (q - (o + i + 1)) + 1 := by omega
            simp only [List.length_cons, h3, a1, a2, if_true, if_false, h1, a3, List.getElem?_cons_succ]
          · have a2 : ¬ q < o + i + (us.length + 1) := by omega
            have a3 : ¬ o + i = o + (i + 1) + us.length + (q - (o + i + 1 + us.length)) := by omega
            have a4 : o + (i + 1) + us.length + (q - (o + i + 1 + us.length)) = o + i + (us.length + 1) + (q - (o + i + (us.length + 1))) := by omega
            have a5 : ¬ o + i = o + i + (us.length + 1) + (q - (o + i + (us.length + 1))) := by omega
            simp [h3, a2, a4, a5]
  have := key us 0 vs (by omega)
  rw [← Array.foldl_toList]
  simpa using this

theorem fill_parts {pl : Nat → Option (Nat × Nat)} {as cs : List AV} {ps : List (Nat × Operand)} (h : Parts fr pl as ps cs) {Z : Nat → Prop} {w : World} {ρ : Operand → Value} (hf : ∀ {x : Operand} {a : AV}, x ∈ ps.map (·.2) → arg fr x = some a → a.p Z w (ρ x)) :
    ∀ vs, AllP Z w as vs → ∃ us, Instr.fill pl vs.toArray (ps.map fun p => (p.1, ρ p.2)) = some us.toArray ∧ AllP Z w cs us := by
  induction h with
  | nil => exact fun vs hv => ⟨vs, rfl, hv⟩
  | @c as bs cs i off sz x a ps hpl hx hc hl hle _ ih =>
    intro vs hv
    have hcs := hc _ _ _ (hf (by simp) hx)
    have l1 := hcs.length
    have l2 := hv.length
    have hle' : off + sz ≤ as.length := by simpa [Nat.ble_eq] using hle
    have hsz : (ρ x).cells.size = sz := by rw [← hl, l1]; simp
    obtain ⟨us, h1, h2⟩ := ih (fun hm hx => hf (by simp at hm ⊢; exact .inr hm) hx) _ (hv.splice hcs off)
    refine ⟨us, ?_, h2⟩
    have hfd := foldl_splice vs (ρ x).cells.toList off (by simp; omega)
    simp only [Array.toArray_toList] at hfd
    have hge : ¬ (off + sz > vs.length) := by omega
    simp only [List.map_cons, Instr.fill, hpl, hsz, ne_eq, not_true_eq_false, List.size_toArray, hge, or_self, if_false]
    exact (congrArg (fun z => Instr.fill pl z _) hfd).trans h1

theorem dBuild {zs : List Value} {az cs : List AV} {ps : Array (Nat × Operand)} {fs : Array Field} {pls : Array (Nat × Nat)} (ht : P.underlying t = some (.struct fs)) (hz : ∀ w, (zeroValue t).run P w = .ok (.agg zs.toArray) w) (hm : ∀ w, (fs.mapM (m := Sem) fun f => do pure (f.offset, ← sizeOf f.type)).run P w = .ok pls w)
    (ha : ∀ Z w, AllP Z w az zs) (hp : Parts fr (fun i => pls[i]?) az ps.toList cs) : D P n H (.build t ps) ty fr (.agg cs) :=
  .of fun o ho hty w Z F ρ _ hf => by
    obtain ⟨us, h1, h2⟩ := fill_parts hp (ρ := ρ) (Z := Z) (w := w) (fun {x a} hmem hx => hf (by simp [Op.operands]; simpa using hmem) hx) zs (ha Z w)
    refine ⟨.agg us.toArray, ?_, us, rfl, h2⟩
    have hps : (ps.map fun p => (p.1, ρ p.2)).toList = ps.toList.map fun p => (p.1, ρ p.2) := by simp
    have h1' : Instr.fill (fun i => pls[i]?) zs.toArray (ps.map fun p => (p.1, ρ p.2)).toList = some us.toArray := by rw [hps]; exact h1
    simp only [execOp, ho, Instr.build, Sem.run_bind, hz w, Result.andThen_ok, Sem.run_pure, run_underlying ht, hm w, Value.cells]
    have h1'' : Instr.fill (fun x => pls[x]?) zs.toArray (Array.map (fun x => match x with | (i, x) => (i, ρ x)) ps).toList = some us.toArray := h1'
    simp only [h1'', Sem.run_pure, Result.andThen_ok]
end
end S
end Go.Proofs.Ytpjhcllohagjoaa
