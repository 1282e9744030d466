/-
  Sim: a round of slices.AppendSeq's loop over a function. Own work; no claim stands here.
-/
import Derived.Test.YtpjhcllohagjoaaSQ
import Derived.RangeFuncRecord
import Derived.RangeFuncLeaves
namespace Go.Proofs.Ytpjhcllohagjoaa
namespace S
open Go.RowKit
set_option linter.unusedVariables false
set_option linter.unusedSimpArgs false
set_option linter.unusedSectionVars false

/-- A block of the call's own that holds an object, as it is. -/
def Res.obj (b : Nat) (o : Obj) : Res := ⟨fun Z w F => F b ∧ w.heap[b]? = some o, fun hz hk h => ⟨h.1, (hk b (.inr h.1)).trans h.2⟩⟩

section
variable {P : Program} {n : Nat} {ops : Array Oper} {fr : Fr} {H : List Res} {Fe : Fence} {m0 : Nat} {ds : List Deferred} {Q : Exit → Act → World → Prop} {w0 : World} {F0 Z0 : Nat → Prop}

/-- From here on in a region of a round's frame. -/
def WL (P : Program) (Fe : Fence) (m0 : Nat) (ds : List Deferred) (n : Nat) (ops : Array Oper) (Q : Exit → Act → World → Prop) (w0 : World) (F0 Z0 : Nat → Prop) (js : List Nat) (fr : Fr) (H : List Res) : Prop :=
  ∀ (w : World) (F Z : Nat → Prop) (tmps : Array Value), tmps.size = n → Inv w0 w F0 Z0 F Z H → FrOk fr Z w tmps → wpOpsIn Fe m0 P ops Q js ⟨tmps, ds⟩ w

theorem wp_value (hF : ∀ f, Fe.fn f) {i : Nat} {js : List Nat} {o : Oper} {tmps : Array Value} {w w' : World} {v : Value} (ho : ops[i]? = some o) (hg : o.guard = none) (hnd : ∀ c, o.op ≠ .defer c) (hr : (execOp (⟨tmps, []⟩ : Act).eval o).run P w = .ok (.value v) w')
    (h : wpOpsIn Fe m0 P ops Q js ⟨putT tmps o.dst v, ds⟩ w') : wpOpsIn Fe m0 P ops Q (i :: js) ⟨tmps, ds⟩ w := by
  simp only [wpOpsIn, ho, wanted_none hg, if_true]
  refine ⟨fun f _ => hF f, ?_⟩
  rw [Oper.semAt_eq _ _ _ hnd, show (⟨tmps, ds⟩ : Act).eval = (⟨tmps, []⟩ : Act).eval from funext fun x => by cases x <;> rfl, hr]
  show wpOpsIn Fe m0 P ops Q js ((⟨tmps, ds⟩ : Act).put o.dst v) w'
  rw [show (⟨tmps, ds⟩ : Act).put o.dst v = ⟨putT tmps o.dst v, ds⟩ from by cases o.dst <;> rfl]
  exact h
theorem wp_skip (hF : ∀ f, Fe.fn f) {i : Nat} {js : List Nat} {o : Oper} {tmps : Array Value} {w w' : World} (ho : ops[i]? = some o) (hg : o.guard = none) (hnd : ∀ c, o.op ≠ .defer c) (hd : o.dst = none) (hr : (execOp (⟨tmps, []⟩ : Act).eval o).run P w = .ok .skip w')
    (h : wpOpsIn Fe m0 P ops Q js ⟨tmps, ds⟩ w') : wpOpsIn Fe m0 P ops Q (i :: js) ⟨tmps, ds⟩ w := by
  simp only [wpOpsIn, ho, wanted_none hg, if_true]
  refine ⟨fun f _ => hF f, ?_⟩
  rw [Oper.semAt_eq _ _ _ hnd, show (⟨tmps, ds⟩ : Act).eval = (⟨tmps, []⟩ : Act).eval from funext fun x => by cases x <;> rfl, hr]
  show wpOpsIn Fe m0 P ops Q js ((⟨tmps, ds⟩ : Act).put o.dst undef) w'
  rw [hd]; exact h

theorem wV (hF : ∀ f, Fe.fn f) {i d : Nat} {js : List Nat} {op : Op} {ty : TypeId} {pos : String} {aft : Array Edge} {I : Type} {av : I → AV} {H' : I → List Res}
    (hop : ∀ (o : Oper), o.op = op → o.type = ty → ∀ (w0 : World) (F0 Z0 : Nat → Prop) (w : World) (F Z : Nat → Prop) (ρ : Operand → Value), Inv w0 w F0 Z0 F Z H → Rho op fr Z w ρ →
      ∃ v w' ι F' Z', (execOp ρ o).run P w = .ok (.value v) w' ∧ Inv w0 w' F0 Z0 F' Z' (H' ι) ∧ (∀ b, Z b → Z' b) ∧ Keep Z w w' ∧ (av ι).p Z' w' v)
    (ho : ops[i]? = some ⟨some d, op, ty, pos, aft, none⟩) (hnd : ∀ c, op ≠ .defer c) (hdn : d < n) (h : ∀ ι, WL P Fe m0 ds n ops Q w0 F0 Z0 js ((d, av ι) :: fr) (H' ι)) : WL P Fe m0 ds n ops Q w0 F0 Z0 (i :: js) fr H := by
  intro w F Z tmps hn hi hf
  obtain ⟨v, w', ι, F', Z', hr, hi', hz, hk, hv⟩ := hop ⟨some d, op, ty, pos, aft, none⟩ rfl rfl w0 F0 Z0 w F Z (⟨tmps, []⟩ : Act).eval hi fun hm hx => arg_ok (hf.on _) hx hm
  refine wp_value hF ho rfl hnd hr ?_
  exact h ι w' F' Z' _ (by simpa [putT] using hn) hi' ((hf.st hz hk).put (by omega) hv)
theorem wE0 (hF : ∀ f, Fe.fn f) {i : Nat} {js : List Nat} {op : Op} {ty : TypeId} {pos : String} {aft : Array Edge} {H' : List Res}
    (hop : ∀ (o : Oper), o.op = op → ∀ (w0 : World) (F0 Z0 : Nat → Prop) (w : World) (F Z : Nat → Prop) (ρ : Operand → Value), Inv w0 w F0 Z0 F Z H → Rho op fr Z w ρ →
      ∃ w' F' Z', (execOp ρ o).run P w = .ok .skip w' ∧ Inv w0 w' F0 Z0 F' Z' H' ∧ (∀ b, Z b → Z' b) ∧ Keep Z w w')
    (ho : ops[i]? = some ⟨none, op, ty, pos, aft, none⟩) (hnd : ∀ c, op ≠ .defer c) (h : WL P Fe m0 ds n ops Q w0 F0 Z0 js fr H') : WL P Fe m0 ds n ops Q w0 F0 Z0 (i :: js) fr H := by
  intro w F Z tmps hn hi hf
  obtain ⟨w', F', Z', hr, hi', hz, hk⟩ := hop ⟨none, op, ty, pos, aft, none⟩ rfl w0 F0 Z0 w F Z (⟨tmps, []⟩ : Act).eval hi fun hm hx => arg_ok (hf.on _) hx hm
  exact wp_skip hF ho rfl hnd rfl hr (h w' F' Z' _ hn hi' (hf.st hz hk))
/-- A quiet operation that calls nothing. -/
theorem wQ (hF : ∀ f, Fe.fn f) {i d : Nat} {js : List Nat} {op : Op} {ty : TypeId} {pos : String} {aft : Array Edge} {av : AV} (hD : D P n H op ty fr av) (hne : ∀ (ρ : Operand → Value) (o : Oper) (w : World) g args w', o.op = op → (execOp ρ o).run P w ≠ .ok (.enter g args) w')
    (ho : ops[i]? = some ⟨some d, op, ty, pos, aft, none⟩) (hnd : ∀ c, op ≠ .defer c) (hdn : d < n) (h : WL P Fe m0 ds n ops Q w0 F0 Z0 js ((d, av) :: fr) H) : WL P Fe m0 ds n ops Q w0 F0 Z0 (i :: js) fr H := by
  intro w F Z tmps hn hi hf
  rcases hD ⟨some d, op, ty, pos, aft, none⟩ rfl rfl w0 F0 Z0 w F Z tmps hn hi (hf.on _) with ⟨v, w', hr, Z', hz, hz', hs, hv⟩ | ⟨g, args, w', R1, hr, _⟩
  · refine wp_value hF ho rfl hnd hr ?_
    exact h w' F Z' _ (by simpa [putT] using hn) (hi.quiet hs hz hz') ((hf.st hz (hi.keepZ hs fun _ x => x.elim)).put (by omega) hv)
  · exact absurd hr (hne _ _ _ _ _ _ rfl)

theorem ne_load {t : TypeId} {y : Operand} (ρ : Operand → Value) (o : Oper) (w : World) (g : FuncId) (args : Array Value) (w' : World) (h : o.op = .load t y) : (execOp ρ o).run P w ≠ .ok (.enter g args) w' := by
  simp only [execOp, h, Sem.run_bind]
  cases (Instr.loadAt t (ρ y)).run P w <;> simp [Result.andThen]
theorem ne_buildSlice {t : TypeId} {m : Nat} {ps : Array (Nat × Operand)} (ρ : Operand → Value) (o : Oper) (w : World) (g : FuncId) (args : Array Value) (w' : World) (h : o.op = .buildSlice t m ps) : (execOp ρ o).run P w ≠ .ok (.enter g args) w' := by
  simp only [execOp, h, Sem.run_bind]
  cases (Instr.buildSlice t m (ps.map fun (i, x) => (i, ρ x))).run P w <;> simp [Result.andThen]

/-- An object of the call's own is put in another's place. -/
theorem Inv.put {w : World} {F Z : Nat → Prop} {j b : Nat} {o o' : Obj} (hi : Inv w0 w F0 Z0 F Z H) (hj : H[j]? = some (.obj b o)) : ∃ F', Inv w0 (w.putObj b o') F0 Z0 F' Z (H.set j (.obj b o')) ∧ Keep Z w (w.putObj b o') := by
  refine hi.turn hj fun F1 h1 _ => ⟨F1, ⟨rfl, rfl, rfl, Nat.le_refl _, by simp [World.putObj], fun c _ hc => ?_⟩, ⟨h1.1, ?_⟩, fun _ x => .inl x⟩
  · have : b ≠ c := fun e => hc (e ▸ h1.1)
    simp [World.putObj, this]
  · have hlt : b < w.heap.size := (Array.getElem?_eq_some_iff.1 h1.2).1
    simp [World.putObj, hlt]
end

/-- One round: the element goes behind what has come. -/
theorem apRound {P : Program} {T : Type} {c : Co T} {tS tE : TypeId} {zs : List Value} {az : List AV} {z : Value} {bytes Bs l : Nat} {rec : Loop} {v : Value} {ss : List T} {x : T} {i1 i2 i3 : Nat} {t1 t2 t3 t4 t5 t6 t7 : TypeId} {p1 p2 p3 p4 p5 p6 p7 : String} {a1 a2 a3 a4 a5 a6 a7 : Array Edge}
    (ht : P.underlying tS = some (.slice tE)) (hgS : IsAgg P tS false) (hzS : SizeIs P tS 1) (hgE : IsAgg P tE true) (hzE : SizeIs P tE c.sz) (hinfo : Info P tE z c.sz bytes) (hzs : z.cells.size = c.sz) (hb0 : 0 < bytes) (hmx : Nat.ble (1 * c.sz) 16777216 = true)
    (hal : ∀ w, (Instr.alloc tE true (.tuple #[])).run P w = .ok (.pointer (some ⟨w.heap.size, 0, none⟩)) (w.alloc (.cells zs.toArray tE))) (haz : ∀ Z w, AllP Z w az zs) (hazl : az.length = c.sz)
    (hsz : rec.tmps.size = 13) (hBs : rec.tmps.getD 2 undef = .pointer (some ⟨Bs, 0, none⟩)) (hps : rec.params = #[7]) (hst : rec.state = .ready) (hpe : rec.pending = none)
    (has : rec.assign = .region i2 #[⟨some 5, .alloc tE, t1, p1, a1, none⟩, ⟨none, .store tE (.tmp 5) (.tmp 7), t2, p2, a2, none⟩] false)
    (hbd : rec.body = .block i1 (.region i3 #[⟨some 8, .load tS (.tmp 2), t3, p3, a3, none⟩, ⟨some 9, .load tE (.tmp 5), t4, p4, a4, none⟩, ⟨some 10, .buildSlice tS 1 #[(0, .tmp 9)], t5, p5, a5, none⟩, ⟨some 11, .call ⟨.builtin .append, #[.tmp 8, .tmp 10], #[tS, tS]⟩, t6, p6, a6, none⟩, ⟨none, .store tS (.tmp 2) (.tmp 11), t7, p7, a7, none⟩] false))
    (hb : (ss.length + 1) * bytes ≤ 140737488355328) :
    Rounds P l [.agg (c.e x)] [.box Bs [.sv v], .own tE c v ss, .obj l (.loop rec)] fun a H => ∃ v', a = Ab true ∧ H = [.box Bs [.sv v'], .own tE c v' (ss ++ [x]), .obj l (.loop rec)] := by
  intro w F Z vs hvs hi
  cases hvs with
  | @cons _ vx _ vs' hvx hvs' =>
  cases hvs'
  obtain ⟨_, ⟨_, hL⟩, _⟩ := hi.res.at (j := 2) rfl
  refine ⟨rec.fn, rec.tmps.setIfInBounds 7 vx, rec.assign, rec.body, by have := run_yield (P := P) (args := #[vx]) hL (by rw [hps]; rfl); rw [hps] at this; simpa using this, roundIn_of_wpIn trivial ?_⟩
  have hf0 : FrOk [(2, AV.lit (.pointer (some ⟨Bs, 0, none⟩)))] Z w rec.tmps := by
    intro t a hta
    simp only [look] at hta
    by_cases e' : 2 = t
    · subst e'; simp at hta; subst hta; exact hBs
    · have : (2 == t) = false := by simpa using e'
      rw [this] at hta; cases hta
  have hf1 := hf0.put (d := 7) (by omega) hvx
  rw [has]
  refine wpIn_region ?_
  rw [show List.range (#[(⟨some 5, .alloc tE, t1, p1, a1, none⟩ : Oper), ⟨none, .store tE (.tmp 5) (.tmp 7), t2, p2, a2, none⟩] : Array Oper).size = [0, 1] from rfl]
  have hsp : splice az 0 (c.e x) = c.e x := by
    simp [splice, hazl, c.len]
  refine (show WL P (Fence.wide.inRound l) 0 [] 13 _ _ w F Z [0, 1] _ _ from
    wV (fun _ => trivial) (d := 5) (I := Nat) (av := fun b => .lit (.pointer (some ⟨b, 0, none⟩))) (H' := fun b => .box b az :: [.box Bs [.sv v], .own tE c v ss, .obj l (.loop rec)]) (fun o ho hty w0 F0 Z0 w F Z ρ hi hf => ⟨.pointer (some ⟨w.heap.size, 0, none⟩), w.alloc (.cells zs.toArray tE), w.heap.size, _, Z, by simp [execOp, ho, hal w, Sem.run_bind], hi.push _ (.box w.heap.size az) ⟨rfl, zs, tE, alloc_cells w zs tE, haz _ _⟩, fun _ x => x, (Step.alloc w _ _).keep' hi, rfl⟩) rfl (fun c h => by cases h) (by omega) fun b0 =>
    wE0 (fun _ => trivial) (stB_op (j := 0) (bs := c.e x) hzE rfl rfl rfl cAgg (c.one x) (c.len x) (by rw [hazl]; omega)) rfl (fun c h => by cases h) fun w2 F2 Z2 tmps2 hn2 hi2 hf2 => ?_) w F Z _ (by simpa using hsz) hi hf1
  rw [hsp] at hi2
  simp only [List.set_cons_zero] at hi2
  obtain ⟨_, ⟨_, hL2⟩, _⟩ := hi2.res.at (j := 3) rfl
  obtain ⟨F3, hi3, hk3⟩ := hi2.put (j := 3) (o' := .loop { rec with state := .busy }) rfl
  refine ⟨_, run_beginRound hL2 hst, ?_⟩
  have hrec : ({ { rec with state := .busy } with state := if (none : Option Code).isNone then .ready else .done, pending := none } : Loop) = rec := by
    cases rec; simp_all
  generalize ({ rec with state := .busy } : Loop) = rb at hi3 hk3 hrec ⊢
  rw [hbd]
  refine wpIn_block (wpIn_region ?_)
  have hf3 := hf2.st (fun _ x => x) hk3
  simp only [List.set_cons_succ, List.set_cons_zero] at hi3
  refine (show WL P (Fence.wide.inRound l) 0 [] 13 _ _ w F Z [0, 1, 2, 3, 4] _ _ from
    wQ (fun _ => trivial) (d := 8) (dLdB (j := 1) (a := .sv v) hgS rfl rfl rfl) ne_load rfl (fun c h => by cases h) (by omega) <|
    wQ (fun _ => trivial) (d := 9) (av := .agg (c.e x)) (by have := dLdBA (P := P) (n := 13) (ty := t4) (t := tE) (y := .tmp 5) (o := 0) (j := 0) (fr := (8, AV.sv v) :: (5, .lit (.pointer (some ⟨b0, 0, none⟩))) :: (7, .agg (c.e x)) :: [(2, AV.lit (.pointer (some ⟨Bs, 0, none⟩)))]) (H := [.box b0 (c.e x), .box Bs [.sv v], .own tE c v ss, .obj l (.loop rb)]) hgE hzE rfl rfl (by rw [c.len]; omega); rw [List.drop_zero, List.take_of_length_le (by rw [c.len]; exact Nat.le_refl _)] at this; exact this) ne_load rfl (fun c h => by cases h) (by omega) <|
    wQ (fun _ => trivial) (d := 10) (dBS (c := c) (xs := [x]) ht hzE hinfo (.c rfl cAgg .nil) (by rw [Bool.and_eq_true]; exact ⟨rfl, hmx⟩)) ne_buildSlice rfl (fun c h => by cases h) (by omega) <|
    wV (fun _ => trivial) (d := 11) (I := Value) (av := fun v' => .sv v') (H' := fun v' => [.box b0 (c.e x), .box Bs [.sv v], .own tE c v' (ss ++ [x]), .obj l (.loop rb)]) (fun o ho hty w0 F0 Z0 w F Z ρ hinv hf => by
      obtain ⟨e1, _⟩ := hf (x := .tmp 8) (a := .sv v) (by simp [Op.operands, Call.operands]) rfl
      have e2 := cells_fsl (hf (x := .tmp 10) (a := .fsl c [x]) (by simp [Op.operands, Call.operands]) rfl)
      obtain ⟨v', w', F', hr, hi', hk, hsl⟩ := append_own (j := 2) (ty := t6) hinv ht hinfo hzs rfl e2 hb hb0
      exact ⟨v', w', v', F', Z, by simp [execOp, ho, hty, e1, hr, resolve, invoke, builtin, Sem.run_bind], hi', fun _ x => x, hk, rfl, hsl⟩) rfl (fun c h => by cases h) (by omega) fun v' =>
    wE0 (fun _ => trivial) (stB_op (j := 1) (bs := [.sv v']) hzS rfl rfl rfl (cOne oSv) ⟨oSv, trivial⟩ rfl (by simp)) rfl (fun c h => by cases h) fun w4 F4 Z4 tmps4 hn4 hi4 hf4 => ?_) _ F3 Z2 tmps2 hn2 hi3 hf3
  simp only [List.set_cons_succ, List.set_cons_zero] at hi4
  obtain ⟨_, ⟨_, hL4⟩, _⟩ := hi4.res.at (j := 3) rfl
  obtain ⟨F5, hi5, hk5⟩ := hi4.put (j := 3) (o' := .loop rec) rfl
  refine ⟨_, _, run_endRound none hL4, ?_⟩
  rw [hrec]
  refine ⟨_, rfl, F5, Z4, Ab true, _, ⟨v', rfl, rfl⟩, hi5.less (·.pickR [1, 1, 1]), rfl⟩
end S
end Go.Proofs.Ytpjhcllohagjoaa
