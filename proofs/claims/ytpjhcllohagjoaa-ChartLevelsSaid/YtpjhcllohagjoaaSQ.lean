/-
  Sim: a part of what is owned is lent to a call whose answer is open; a call of yield (a round of a loop over a function). Own work; no claim stands here.
-/
import Derived.Test.YtpjhcllohagjoaaSP
import Derived.RangeFuncIn
namespace Go.Proofs.Ytpjhcllohagjoaa
namespace S
open Go.RowKit
set_option linter.unusedVariables false
set_option linter.unusedSimpArgs false
set_option linter.unusedSectionVars false

/-- A part of what is owned, by itself; and back. -/
theorem Inv.lend {H Hin : List Res} {js : List Nat} {w0 w : World} {F0 Z0 F Z : Nat → Prop} (hi : Inv w0 w F0 Z0 F Z H) (hpk : pickR H js = Hin) :
    ∃ F1 : Nat → Prop, Inv w w F1 Z F1 Z Hin ∧ ∀ (w'' : World) (F' Z' : Nat → Prop) (H' : List Res), Inv w w'' F1 Z F' Z' H' → ∃ F'', Inv w0 w'' F0 Z0 F'' Z' (H' ++ restR H js) ∧ Keep Z w w'' := by
  obtain ⟨F1, F2, h1, h2, d1, d2⟩ := hi.res.part js
  refine ⟨F1, ⟨Base.refl _ _, fun _ x => x, fun b hb => ⟨(hi.zin b hb).1, .inl hb⟩, fun b hb => ⟨(hi.fin b (d1 b hb).1).1, .inl hb, (hi.fin b (d1 b hb).1).2.2⟩, hpk ▸ h1⟩, fun w'' F' Z' H' hinv => ?_⟩
  have s : Step w w'' F1 := ⟨hinv.base.os, hinv.base.tape, hinv.base.output, hinv.base.drawn, hinv.base.size, fun b hb hn => hinv.base.keep b hb hn⟩
  have hk : Keep Z w w'' := hi.keepZ s fun b hb => (d1 b hb).1
  have hzF : ∀ b, Z' b → F2 b → False := fun b hz hF => by
    rcases (hinv.zin b hz).2 with y | y | y
    · exact (hi.fin b (d2 b hF)).2.2 y
    · exact (d1 b y).2 hF
    · have := (hi.fin b (d2 b hF)).1; omega
  refine ⟨fun b => F' b ∨ F2 b, ?_, hk⟩
  refine hi.step s (fun b hb => (d1 b hb).1) hinv.z0 (fun b hb => ?_) (fun b hb => ?_) (hinv.res.append (h2.st hinv.z0 fun b hb => s.keep b (hb.elim (fun x => (hi.zin b x).1) (fun x => (hi.fin b (d2 b x)).1)) fun hF => ?_) fun b hb hF => ?_)
  · have := hinv.zin b hb
    rcases this.2 with y | y | y
    · exact .inl y
    · exact .inr (.inl (d1 b y).1)
    · exact .inr (.inr ⟨y, this.1⟩)
  · rcases hb with hb | hb
    · have := hinv.fin b hb
      exact ⟨this.2.1.elim (fun z => .inl (d1 b z).1) fun z => .inr ⟨z, this.1⟩, this.2.2⟩
    · exact ⟨.inl (d2 b hb), fun hz => hzF b hz hb⟩
  · rcases hb with x | x
    · exact (hi.fin b (d1 b hF).1).2.2 x
    · exact (d1 b hF).2 x
  · rcases (hinv.fin b hb).2.1 with y | y
    · exact (d1 b y).2 hF
    · have := (hi.fin b (d2 b hF)).1; omega

/-- One round of a loop over a function, as the call of yield makes it. -/
def Rounds (P : Program) (l : Nat) (avs : List AV) (H : List Res) (K : AV → List Res → Prop) : Prop :=
  ∀ (w : World) (F Z : Nat → Prop) (vs : List Value), AllP Z w avs vs → Inv w w F Z F Z H → ∃ fn tmps assign body, (Instr.yield l vs.toArray).run P w = .ok (.round l fn tmps assign body) w ∧
    RoundIn Fence.wide 0 P l fn tmps assign body w fun e w' => ∃ v, e = .returned v ∧ Done w F Z K v w'

theorem Run.round {P : Program} {f : FuncId} {k : List Item} {tmps : Array Value} {w : World} {R : Value → World → Prop} {ops : Array Oper} {i : Nat} {is : List Nat} {o : Oper} {l : Nat} {fn : FuncId} {tm : Array Value} {as bd : Code} {w' : World} {R1 : Ending → World → Prop} (ho : ops[i]? = some o) (hw : Region.wanted o (yielded ops tmps) = true)
    (hr : (execOp (⟨tmps, []⟩ : Act).eval o).run P w = .ok (.round l fn tm as bd) w') (hc : RoundIn Fence.wide 0 P l fn tm as bd w' R1)
    (h : ∀ e w'', R1 e w'' → ∃ v, e = .returned v ∧ Run P f (.inRegion ops is :: k) (putT tmps o.dst v) w'' R) : Run P f (.inRegion ops (i :: is) :: k) tmps w R := by
  intro b cs hb hk
  have hg := stepG_op (P := P) (b := b) (a := ⟨tmps, []⟩) (k := k) (cs := cs) (w := w) (rest := is) ho hw
  have hfin : ∀ v, (b.at ⟨tmps, []⟩ (.inRegion ops (i :: is) :: k)).finish v = b.at ⟨putT tmps o.dst v, []⟩ (.inRegion ops is :: k) := by
    intro v; rw [Frame.finish_at, ho]; simp only [Option.bind_some, put_act]; cases o.dst <;> rfl
  obtain ⟨e, w'', hR, hsteps⟩ := hc.2 (b.at ⟨tmps, []⟩ (.inRegion ops (i :: is) :: k)) cs (room_wide _)
  have henter : step P (lone (b.at ⟨tmps, []⟩ (.inRegion ops (i :: is) :: k)) cs w) = .next (lone (Frame.round l fn tm as bd .normal) (b.at ⟨tmps, []⟩ (.inRegion ops (i :: is) :: k) :: cs) w') :=
    step_lone_go (by rw [hg]; simp [stepG.apply, hr, Frame.at])
  obtain ⟨v, rfl, hrun⟩ := h e w'' hR
  obtain ⟨v2, w3, fr2, r, st, x⟩ := hrun b cs hb hk
  refine ⟨v2, w3, fr2, r, Steps.head henter (Steps.trans (ComesIn.comes hsteps) ?_), x⟩
  simp only [hfin]; exact st

section
variable {P : Program} {f : FuncId} {n : Nat} {ops : Array Oper} {l : List Oper} {k : List Item} {fr : Fr} {H : List Res} {ρ R : Type} {x : Option ρ} {X : ρ → Option R} {K : R → AV → List Res → Prop} {ty t : TypeId} {d : Nat} {pos : String} {aft : Array Edge}

/-- A call that is lent a part of what is owned; its answer is open. -/
theorem sCallK {g : FuncId} {y : Operand} {args : Array Operand} {ts : Array TypeId} {avs : List AV} {Hin : List Res} {K1 : AV → List Res → Prop} (js : List Nat) (hg : Ent P g) (hy : arg fr y = some (.lit (.func (.func g) #[] #[]))) (hp : Spec P g avs Hin K1) (hpk : pickR H js = Hin) (ha : ArgsS fr args.toList avs) (hdn : Nat.blt d n = true)
    (h : ∀ av H', K1 av H' → SimL P f n ops l k ((d, av) :: fr) (H' ++ restR H js) x X K) : SimL P f n ops (⟨some d, .call ⟨.value y, args, ts⟩, ty, pos, aft, none⟩ :: l) k fr H x X K := by
  intro is hs r' hr w0 F0 Z0 w F Z tmps hn hi hf
  cases is with
  | nil => simp at hs
  | cons i is =>
    simp only [List.map_cons, List.cons.injEq] at hs
    have hdn' : d < n := by simpa [Nat.blt_eq] using hdn
    have all : ∀ {x : Operand} {a : AV}, arg fr x = some a → a.p Z w ((⟨tmps, []⟩ : Act).eval x) := by
      intro x a hx
      cases x with
      | tmp t => exact hf t a hx
      | const v => simp [arg] at hx; subst hx; rfl
      | func g => simp [arg] at hx; subst hx; rfl
      | global g => simp [arg] at hx; subst hx; rfl
    have hargs := argsS_ok (ρ := (⟨tmps, []⟩ : Act).eval) ha fun {x a} _ hx => all hx
    obtain ⟨F1, hin, hback⟩ := hi.lend hpk
    refine .enter hs.1 (wanted_none rfl) (call_run' (all hy) rfl hg) (hp w F1 Z _ hargs hin) ?_
    rintro e w'' ⟨v, rfl, F', Z', av, H', hK, hinv, hv⟩
    obtain ⟨F'', hi', hk⟩ := hback w'' F' Z' H' hinv
    exact ⟨v, rfl, h av H' hK is hs.2 r' hr w0 F0 Z0 w'' F'' Z' _ (by simpa [putT] using hn) hi' ((hf.st hinv.z0 hk).put (by omega) hv)⟩

/-- A call of yield. -/
theorem sYield {lb : Nat} {y : Operand} {args : Array Operand} {ts : Array TypeId} {avs : List AV} {Hin : List Res} {K1 : AV → List Res → Prop} (js : List Nat) (hy : arg fr y = some (.lit (.func (.yield lb) #[] #[]))) (hp : Rounds P lb avs Hin K1) (hpk : pickR H js = Hin) (ha : ArgsS fr args.toList avs) (hdn : Nat.blt d n = true)
    (h : ∀ av H', K1 av H' → SimL P f n ops l k ((d, av) :: fr) (H' ++ restR H js) x X K) : SimL P f n ops (⟨some d, .call ⟨.value y, args, ts⟩, ty, pos, aft, none⟩ :: l) k fr H x X K := by
  intro is hs r' hr w0 F0 Z0 w F Z tmps hn hi hf
  cases is with
  | nil => simp at hs
  | cons i is =>
    simp only [List.map_cons, List.cons.injEq] at hs
    have hdn' : d < n := by simpa [Nat.blt_eq] using hdn
    have all : ∀ {x : Operand} {a : AV}, arg fr x = some a → a.p Z w ((⟨tmps, []⟩ : Act).eval x) := by
      intro x a hx
      cases x with
      | tmp t => exact hf t a hx
      | const v => simp [arg] at hx; subst hx; rfl
      | func g => simp [arg] at hx; subst hx; rfl
      | global g => simp [arg] at hx; subst hx; rfl
    have hargs := argsS_ok (ρ := (⟨tmps, []⟩ : Act).eval) ha fun {x a} _ hx => all hx
    obtain ⟨F1, hin, hback⟩ := hi.lend hpk
    obtain ⟨fn, tm, as, bd, hyr, hround⟩ := hp w F1 Z _ hargs hin
    have e1 : (⟨tmps, []⟩ : Act).eval y = .func (.yield lb) #[] #[] := all hy
    refine .round hs.1 (wanted_none rfl) (l := lb) (fn := fn) (tm := tm) (as := as) (bd := bd) (w' := w) ?_ hround ?_
    · have e2 : #[] ++ args.map (⟨tmps, []⟩ : Act).eval = (args.toList.map (⟨tmps, []⟩ : Act).eval).toArray := by apply Array.ext'; simp
      simp only [execOp, resolve, e1, Deferred.ofValue, invoke, Sem.run_bind, Sem.run_pure, Result.andThen_ok, e2, hyr]
    · rintro e w'' ⟨v, rfl, F', Z', av, H', hK, hinv, hv⟩
      obtain ⟨F'', hi', hk⟩ := hback w'' F' Z' H' hinv
      exact ⟨v, rfl, h av H' hK is hs.2 r' hr w0 F0 Z0 w'' F'' Z' _ (by simpa [putT] using hn) hi' ((hf.st hinv.z0 hk).put (by omega) hv)⟩
end
end S
end Go.Proofs.Ytpjhcllohagjoaa
