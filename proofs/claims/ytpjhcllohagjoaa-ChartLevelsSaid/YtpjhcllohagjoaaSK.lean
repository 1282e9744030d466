/-
  Sim: a slice with known room behind it (what the laws lend). Own work; no claim stands here.
-/
import Derived.Test.YtpjhcllohagjoaaSI
namespace Go.Proofs.Ytpjhcllohagjoaa
namespace S
open Go.RowKit
set_option linter.unusedVariables false
set_option linter.unusedSimpArgs false

/-- The first p.2 of p.1 are seen; all of p.1 stands there, in memory that is not written any more. -/
def AV.fsx {T : Type} (c : Co T) (p : List T × Int) : AV :=
  ⟨fun Z w v => 0 ≤ p.2 ∧ p.2 ≤ p.1.length ∧ ∃ A m, v = .slice A p.2.toNat m ∧ (AV.fsl c p.1).p Z w (.slice A p.1.length m),
   fun hz hk ⟨h0, h1, A, m, e, h⟩ => ⟨h0, h1, A, m, e, AV.st _ hz hk h⟩⟩
theorem oFsx {T : Type} {c : Co T} {p : List T × Int} : (AV.fsx c p).One := fun _ _ _ ⟨_, _, _, _, e, _⟩ => by rw [e]; rfl
/-- What is seen. -/
def lnt {T : Type} (p : List T × Int) : List T := p.1.take p.2.toNat
theorem fsx_fsl {T : Type} {c : Co T} {p : List T × Int} {Z : Nat → Prop} {w : World} {v : Value} (h : (AV.fsx c p).p Z w v) : (AV.fsl c (lnt p)).p Z w v := by
  obtain ⟨h0, h1, A, m, rfl, A', m', e, hm, hel⟩ := h
  cases e
  have hl : (lnt p).length = p.2.toNat := by unfold lnt; simp; omega
  refine ⟨A, m, by rw [hl], by omega, fun i x hx => hel i x ?_⟩
  unfold lnt at hx
  rw [List.getElem?_take] at hx
  split at hx
  · exact hx
  · cases hx

section
variable {P : Program} {f : FuncId} {n : Nat} {ops : Array Oper} {l : List Oper} {k : List Item} {fr : Fr} {H : List Res} {ρ R : Type} {x : Option ρ} {X : ρ → Option R} {K : R → AV → List Res → Prop} {t ty e : TypeId} {T : Type} {c : Co T}
theorem slice_to {A : Option Addr} {len cap m : Nat} (ht : P.underlying t = some (.slice e)) (hsz : SizeIs P e c.sz) (hm : m ≤ cap) (w : World) {kb : IntKind} : (Instr.sliceAt t (.slice A len cap) none (some (.int kb (m : Int))) none).run P w = .ok (.slice A m cap) w := by
  have g1 : (m : Int) ≤ (cap : Int) := by omega
  have g0 : (0 : Int) ≤ (m : Int) := Int.natCast_nonneg m
  simp [Instr.sliceAt, Instr.slice, Instr.sliceBounds, Instr.sliceBound, run_underlying ht, hsz _, Sem.run_bind, asIntOf, g1, g0]
  rw [if_pos hm]
  have e0 : (if cap = 0 then A else A.map fun x => x.add 0) = A := by
    split
    · rfl
    · cases A with
      | none => rfl
      | some a => simp [Addr.add_zero']
  rw [e0]

theorem dSlX {xs : List T} {y b : Operand} {kb : IntKind} {m : Int} (ht : P.underlying t = some (.slice e)) (hsz : SizeIs P e c.sz) (hy : arg fr y = some (.fsl c xs)) (hb : arg fr b = some (Ai kb m)) (h1 : 0 ≤ m) (h2 : m ≤ xs.length) : D P n H (.slice t y none (some b) none) ty fr (.fsx c (xs, m)) :=
  .of fun o ho hty w Z F ρ hH hf => by
    have hp := hf (by simp [Op.operands]) hy
    have e3 : ρ b = _ := hf (by simp [Op.operands]) hb
    have hp' := hp
    obtain ⟨A, q, e1, hq, _⟩ := hp'
    rw [e1] at hp
    obtain ⟨u, rfl⟩ := Int.eq_ofNat_of_zero_le h1
    have hr := slice_to (P := P) (c := c) (A := A) (len := xs.length) (cap := q) (m := u) (kb := kb) ht hsz (by omega) w
    exact ⟨.slice A u q, by simp only [execOp, ho, e1, e3, Option.map_none, Option.map_some, hr, Sem.run_bind, Result.andThen_ok, Sem.run_pure], h1, h2, A, q, by simp, hp⟩
/-- Out to what was lent. -/
theorem dSlXe {p : List T × Int} {y b : Operand} {kb : IntKind} {m : Int} (ht : P.underlying t = some (.slice e)) (hsz : SizeIs P e c.sz) (hy : arg fr y = some (.fsx c p)) (hb : arg fr b = some (Ai kb m)) (h1 : 0 ≤ m) (h2 : m ≤ p.1.length) : D P n H (.slice t y none (some b) none) ty fr (.fsl c (sl p.1 0 m)) :=
  .of fun o ho hty w Z F ρ hH hf => by
    obtain ⟨g0, g1, A, q, e1, hp⟩ := hf (by simp [Op.operands]) hy
    have e3 : ρ b = _ := hf (by simp [Op.operands]) hb
    have hp' := hp
    obtain ⟨A', q', e4, hq, _⟩ := hp'
    cases e4
    obtain ⟨u, rfl⟩ := Int.eq_ofNat_of_zero_le h1
    have hr := slice_to (P := P) (c := c) (A := A) (len := p.2.toNat) (cap := q) (m := u) (kb := kb) ht hsz (by omega) w
    refine ⟨.slice A u q, by simp only [execOp, ho, e1, e3, Option.map_none, Option.map_some, hr, Sem.run_bind, Result.andThen_ok, Sem.run_pure], ?_⟩
    have := fsl_cut hp (a := 0) (b := u) (by omega) (by omega)
    have e5 : (if q = 0 then A else A.map (·.add (0 * c.sz))) = A := by
      split
      · rfl
      · cases A with
        | none => rfl
        | some a => simp [Addr.add_zero']
    rw [e5] at this
    simpa [sl] using this
theorem dLenX {p : List T × Int} {y : Operand} (ht : P.underlying t = some (.slice e)) (hx : arg fr y = some (.fsx c p)) : D P n H (.call ⟨.builtin .len, #[y], #[t]⟩) ty fr (Ai .i64 p.2) :=
  .of fun o ho hty w Z F ρ _ hf => by
    obtain ⟨g0, g1, A, q, e1, hp⟩ := hf (by simp [Op.operands, Call.operands]) hx
    have e2 : ((p.2.toNat : Nat) : Int) = p.2 := by omega
    exact ⟨.int .i64 p.2, by simp [execOp, ho, e1, resolve, invoke, builtin, Builtin.len_, run_underlying ht, goInt, Sem.run_bind, e2], rfl⟩
/-- What is seen alone. -/
theorem sXd {todo : List Item} (u : Nat) {p : List T × Int} (hu : look fr u = some (.fsx c p)) (h : Sim P f n todo ((u, .fsl c (lnt p)) :: fr) H x X K) : Sim P f n todo fr H x X K := by
  intro r hr w0 F0 Z0 w F Z tmps hn hi hf
  refine h r hr w0 F0 Z0 w F Z tmps hn hi fun t a ht => ?_
  simp only [look] at ht
  by_cases e : u = t
  · subst e; simp at ht; subst ht
    exact fsx_fsl (hf u _ hu)
  · have : (u == t) = false := by simpa using e
    rw [this] at ht; exact hf t a (by simpa using ht)
theorem sXdL (u : Nat) {p : List T × Int} (hu : look fr u = some (.fsx c p)) (h : SimL P f n ops l k ((u, .fsl c (lnt p)) :: fr) H x X K) : SimL P f n ops l k fr H x X K := fun is hs => sXd u hu (h is hs)

/-! ### A struct's slices, read alone -/
theorem agg_imp {Z : Nat → Prop} {w : World} {az : List AV} {v : Value} {i : Nat} {a b : AV} (h : (AV.agg az).p Z w v) (hi : az[i]? = some a) (hab : ∀ u, a.p Z w u → b.p Z w u) : (AV.agg (az.set i b)).p Z w v := by
  obtain ⟨vs, e, h⟩ := h
  exact ⟨vs, e, h.imp hi hab⟩
theorem sUpAg {todo : List Item} (u i j : Nat) {az : List AV} {v : Value} {xs : List T} (hu : look fr u = some (.agg az)) (hi : az[i]? = some (.sv v)) (hj : H[j]? = some (.fz c v xs)) (h : Sim P f n todo ((u, .agg (az.set i (.fsl c xs))) :: fr) H x X K) : Sim P f n todo fr H x X K := by
  intro r hr w0 F0 Z0 w F Z tmps hn hinv hf
  obtain ⟨F1, h1, _⟩ := hinv.res.at hj
  refine h r hr w0 F0 Z0 w F Z tmps hn hinv fun t a ht => ?_
  simp only [look] at ht
  by_cases e : u = t
  · subst e; simp at ht; subst ht
    exact agg_imp (hf u _ hu) hi fun q hq => by rw [hq.1]; exact h1
  · have : (u == t) = false := by simpa using e
    rw [this] at ht; exact hf t a (by simpa using ht)
theorem sUpAgL (u i j : Nat) {az : List AV} {v : Value} {xs : List T} (hu : look fr u = some (.agg az)) (hi : az[i]? = some (.sv v)) (hj : H[j]? = some (.fz c v xs)) (h : SimL P f n ops l k ((u, .agg (az.set i (.fsl c xs))) :: fr) H x X K) : SimL P f n ops l k fr H x X K := fun is hs => sUpAg u i j hu hi hj (h is hs)
theorem sNFAg {todo : List Item} (u i : Nat) (c : Co T) {az : List AV} (hu : look fr u = some (.agg az)) (hi : az[i]? = some (.lit (.slice none 0 0))) (h : Sim P f n todo ((u, .agg (az.set i (.fsl c []))) :: fr) H x X K) : Sim P f n todo fr H x X K := by
  intro r hr w0 F0 Z0 w F Z tmps hn hinv hf
  refine h r hr w0 F0 Z0 w F Z tmps hn hinv fun t a ht => ?_
  simp only [look] at ht
  by_cases e : u = t
  · subst e; simp at ht; subst ht
    exact agg_imp (hf u _ hu) hi fun q hq => by rw [show q = _ from hq]; exact ⟨none, 0, rfl, Nat.le_refl _, fun i x hx => by simp at hx⟩
  · have : (u == t) = false := by simpa using e
    rw [this] at ht; exact hf t a (by simpa using ht)
theorem sNFAgL (u i : Nat) (c : Co T) {az : List AV} (hu : look fr u = some (.agg az)) (hi : az[i]? = some (.lit (.slice none 0 0))) (h : SimL P f n ops l k ((u, .agg (az.set i (.fsl c []))) :: fr) H x X K) : SimL P f n ops l k fr H x X K := fun is hs => sNFAg u i c hu hi (h is hs)
end
end S
end Go.Proofs.Ytpjhcllohagjoaa
