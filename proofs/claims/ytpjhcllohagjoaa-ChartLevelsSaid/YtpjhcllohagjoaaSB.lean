/-
  Sim, the second text: an operation that gives a value (D), how regions are walked in their own order and in any order that Go allows. Own work; no claim stands here.
-/
import Derived.Test.YtpjhcllohagjoaaSA
import Derived.Orders
namespace Go.Proofs.Ytpjhcllohagjoaa
namespace S
open Go.RowKit
set_option linter.unusedVariables false

def Does (P : Program) (o : Oper) (tmps : Array Value) (w : World) (R : Value → World → Prop) : Prop :=
  (∃ v w', (execOp (⟨tmps, []⟩ : Act).eval o).run P w = .ok (.value v) w' ∧ R v w') ∨
  (∃ g args w' R1, (execOp (⟨tmps, []⟩ : Act).eval o).run P w = .ok (.enter g args) w' ∧ Calls P g args w' R1 ∧ ∀ e w'', R1 e w'' → ∃ v, e = .returned v ∧ R v w'')

def opTmps (o : Op) : List Nat := o.operands.toList.filterMap fun | .tmp t => some t | _ => none

def FrOn (ts : List Nat) (fr : Fr) (Z : Nat → Prop) (w : World) (tmps : Array Value) : Prop := ∀ t, t ∈ ts → ∀ a, look fr t = some a → a.p Z w (tmps.getD t undef)

theorem FrOk.on {fr : Fr} {Z : Nat → Prop} {w : World} {tmps : Array Value} (h : FrOk fr Z w tmps) (ts : List Nat) : FrOn ts fr Z w tmps := fun t _ a ht => h t a ht

/-- What a quiet operation leaves: nothing that is owned is written; Z may grow by new blocks. -/
def Calm (av : AV) (w : World) (Z : Nat → Prop) (v : Value) (w' : World) : Prop :=
  ∃ Z' : Nat → Prop, (∀ b, Z b → Z' b) ∧ (∀ b, Z' b → Z b ∨ (w.heap.size ≤ b ∧ b < w'.heap.size)) ∧ Step w w' (fun _ => False) ∧ av.p Z' w' v

theorem Calm.same {av : AV} {w : World} {Z : Nat → Prop} {v : Value} (h : av.p Z w v) : Calm av w Z v w := ⟨Z, fun _ h => h, fun _ h => .inl h, Step.refl _ _, h⟩

/-- An operation that gives a value and writes nothing that is owned. -/
def D (P : Program) (n : Nat) (H : List Res) (op : Op) (ty : TypeId) (fr : Fr) (av : AV) : Prop :=
  ∀ (o : Oper), o.op = op → o.type = ty → ∀ (w0 : World) (F0 Z0 : Nat → Prop) (w : World) (F Z : Nat → Prop) (tmps : Array Value), tmps.size = n → Inv w0 w F0 Z0 F Z H → FrOn (opTmps op) fr Z w tmps → Does P o tmps w (Calm av w Z)

def SimL (P : Program) (f : FuncId) (n : Nat) (ops : Array Oper) (l : List Oper) (k : List Item) (fr : Fr) (H : List Res) {ρ R : Type} (x : Option ρ) (X : ρ → Option R) (K : R → AV → List Res → Prop) : Prop :=
  ∀ is : List Nat, is.map (fun i => ops[i]?) = l.map some → Sim P f n (.inRegion ops is :: k) fr H x X K

section
variable {P : Program} {f : FuncId} {n : Nat} {k : List Item} {fr : Fr} {H : List Res} {ρ R : Type} {x : Option ρ} {X : ρ → Option R} {K : R → AV → List Res → Prop}

theorem sSeq {a b : Code} (h : Sim P f n (.code a :: .code b :: k) fr H x X K) : Sim P f n (.code (.seq a b) :: k) fr H x X K := fun r hr w0 F0 Z0 w F Z tmps hn hi hf => .seq (h r hr w0 F0 Z0 w F Z tmps hn hi hf)
theorem sSkip (h : Sim P f n k fr H x X K) : Sim P f n (.code .skip :: k) fr H x X K := fun r hr w0 F0 Z0 w F Z tmps hn hi hf => .skip (h r hr w0 F0 Z0 w F Z tmps hn hi hf)
theorem sBlk {id : Nat} {c : Code} (h : Sim P f n (.code c :: .inBlock id :: k) fr H x X K) : Sim P f n (.code (.block id c) :: k) fr H x X K := fun r hr w0 F0 Z0 w F Z tmps hn hi hf => .block (h r hr w0 F0 Z0 w F Z tmps hn hi hf)
theorem sBlkEnd {id : Nat} (h : Sim P f n k fr H x X K) : Sim P f n (.inBlock id :: k) fr H x X K := fun r hr w0 F0 Z0 w F Z tmps hn hi hf => .inBlock (h r hr w0 F0 Z0 w F Z tmps hn hi hf)
theorem sExit {id : Nat} {k' : List Item} (he : exitTo id k = some k') (h : Sim P f n k' fr H x X K) : Sim P f n (.code (.exit id) :: k) fr H x X K := fun r hr w0 F0 Z0 w F Z tmps hn hi hf => .exit he (h r hr w0 F0 Z0 w F Z tmps hn hi hf)

theorem look_ok {tmps : Array Value} {Z : Nat → Prop} {w : World} (hf : FrOk fr Z w tmps) {t : Nat} {a : AV} (h : look fr t = some a) : a.p Z w ((⟨tmps, []⟩ : Act).eval (.tmp t)) := hf t a h

/-- The term's own test, without a step of the code. -/
theorem sIf {p : Prop} [Decidable p] (h : p → Sim P f n k fr H x X K) : Sim P f n k fr H (if p then x else none) X K := by
  intro r hr
  by_cases hp : p
  · rw [if_pos hp] at hr; exact h hp r hr
  · rw [if_neg hp] at hr; cases hr
theorem sIte {p : Prop} [Decidable p] {y : Option ρ} (h : p → Sim P f n k fr H x X K) (h' : ¬ p → Sim P f n k fr H y X K) : Sim P f n k fr H (if p then x else y) X K := by
  intro r hr
  by_cases hp : p
  · rw [if_pos hp] at hr; exact h hp r hr
  · rw [if_neg hp] at hr; exact h' hp r hr
theorem sVal {α : Type} {g : Option α} {y : α → Option ρ} (h : ∀ v, g = some v → Sim P f n k fr H (y v) X K) : Sim P f n k fr H (g.bind y) X K := by
  intro r hr
  cases hg : g with
  | none => rw [hg] at hr; cases hr
  | some v => rw [hg] at hr; exact h v hg r hr
theorem sNone : Sim P f n k fr H (none : Option ρ) X K := fun r hr => by cases hr

theorem sIfL {ops : Array Oper} {l : List Oper} {p : Prop} [Decidable p] (h : p → SimL P f n ops l k fr H x X K) : SimL P f n ops l k fr H (if p then x else none) X K := fun is hs => sIf fun hp => h hp is hs
theorem sIteL {ops : Array Oper} {l : List Oper} {p : Prop} [Decidable p] {y : Option ρ} (h : p → SimL P f n ops l k fr H x X K) (h' : ¬ p → SimL P f n ops l k fr H y X K) : SimL P f n ops l k fr H (if p then x else y) X K := fun is hs => sIte (fun hp => h hp is hs) (fun hp => h' hp is hs)
theorem sValL {ops : Array Oper} {l : List Oper} {α : Type} {g : Option α} {y : α → Option ρ} (h : ∀ v, g = some v → SimL P f n ops l k fr H (y v) X K) : SimL P f n ops l k fr H (g.bind y) X K := fun is hs => sVal fun v hv => h v hv is hs
theorem sNoneL {ops : Array Oper} {l : List Oper} : SimL P f n ops l k fr H (none : Option ρ) X K := fun _ _ => sNone

theorem range_map (ops : Array Oper) : (List.range ops.size).map (fun i => ops[i]?) = ops.toList.map some := by
  apply List.ext_getElem?
  intro i
  simp only [List.getElem?_map, Array.getElem?_toList]
  by_cases h : i < ops.size
  · simp [h]
  · simp [h]

theorem sReg {id : Nat} {ops : Array Oper} {l : List Oper} (hl : ops.toList = l) (h : SimL P f n ops l k fr H x X K) : Sim P f n (.code (.region id ops false) :: k) fr H x X K := fun r hr w0 F0 Z0 w F Z tmps hn hi hf =>
  .region (h (List.range ops.size) (by rw [range_map, hl]) r hr w0 F0 Z0 w F Z tmps hn hi hf)
theorem sEnd {ops : Array Oper} (h : Sim P f n k fr H x X K) : SimL P f n ops [] k fr H x X K := by
  intro is hs r hr w0 F0 Z0 w F Z tmps hn hi hf
  have : is = [] := by simpa using hs
  subst this
  exact .regionEnd (h r hr w0 F0 Z0 w F Z tmps hn hi hf)

theorem wanted_none {ops : Array Oper} {o : Oper} {tmps : Array Value} (h : o.guard = none) : Region.wanted o (yielded ops tmps) = true := by simp [Region.wanted, h]

/-- A quiet operation that runs: the world behind it. -/
theorem does_run {ops : Array Oper} {o : Oper} {i : Nat} {is : List Nat} {d : Nat} {av : AV} {tmps : Array Value} {w0 w : World} {F0 Z0 F Z : Nat → Prop} {Q : Value → World → Prop} (hd : o.dst = some d) (hdn : d < n) (ho : ops[i]? = some o) (hw : Region.wanted o (yielded ops tmps) = true)
    (hn : tmps.size = n) (hi : Inv w0 w F0 Z0 F Z H) (hdo : Does P o tmps w (Calm av w Z))
    (h : ∀ v w' Z', Inv w0 w' F0 Z0 F Z' H → (∀ b, Z b → Z' b) → Keep Z w w' → av.p Z' w' v → Run P f (.inRegion ops is :: k) (tmps.setIfInBounds d v) w' Q) : Run P f (.inRegion ops (i :: is) :: k) tmps w Q := by
  rcases hdo with ⟨v, w', hr, Z', hz, hz', hs, hv⟩ | ⟨g, args, w', R1, hr, hc, hR⟩
  · refine .value ho hw hr ?_
    rw [hd]
    exact h v w' Z' (hi.quiet hs hz hz') hz (hi.keepZ hs (fun _ x => x.elim)) hv
  · refine .enter ho hw hr hc fun e w'' he => ?_
    obtain ⟨v, rfl, Z', hz, hz', hs, hv⟩ := hR e w'' he
    refine ⟨v, rfl, ?_⟩
    rw [hd]
    exact h v w'' Z' (hi.quiet hs hz hz') hz (hi.keepZ hs (fun _ x => x.elim)) hv

theorem sQ {ops : Array Oper} {d : Nat} {op : Op} {ty : TypeId} {pos : String} {aft : Array Edge} {l : List Oper} {av : AV} (hD : D P n H op ty fr av) (hdn : Nat.blt d n = true) (h : SimL P f n ops l k ((d, av) :: fr) H x X K) :
    SimL P f n ops (⟨some d, op, ty, pos, aft, none⟩ :: l) k fr H x X K := by
  intro is hs r hr w0 F0 Z0 w F Z tmps hn hi hf
  cases is with
  | nil => simp at hs
  | cons i is =>
    simp only [List.map_cons, List.cons.injEq] at hs
    have hdn' : d < n := by simpa [Nat.blt_eq] using hdn
    refine does_run (d := d) rfl hdn' hs.1 (wanted_none rfl) hn hi (hD _ rfl rfl w0 F0 Z0 w F Z tmps hn hi (hf.on _)) ?_
    intro v w' Z' hi' hz hk hv
    exact h is hs.2 r hr w0 F0 Z0 w' F Z' _ (by simpa using hn) hi' ((hf.st hz hk).put (by omega) hv)

theorem yield_of {ops : Array Oper} {j d : Nat} {oj : Oper} {t : Bool} {tmps : Array Value} (hj : ops[j]? = some oj) (hd : oj.dst = some d) (hdn : d < tmps.size) (hv : tmps.getD d undef = .bool t) : yielded ops tmps j = some t := by
  have : tmps[d]? = some (.bool t) := by
    rw [Array.getD_eq_getD_getElem?] at hv
    rw [Array.getElem?_eq_getElem hdn] at hv ⊢
    simpa using hv
  simp [yielded, hj, hd, this]

def AV.any : AV := ⟨fun _ _ _ => True, fun _ _ _ => trivial⟩
def AV.lit (v : Value) : AV := ⟨fun _ _ u => u = v, fun _ _ h => h⟩
abbrev Ai (k : IntKind) (n : Int) : AV := .lit (.int k n)
abbrev Ab (b : Bool) : AV := .lit (.bool b)

/-- Behind a guard that is met. -/
theorem sQg {ops : Array Oper} {d j dj : Nat} {oj : Oper} {t b : Bool} {op : Op} {ty : TypeId} {pos : String} {aft : Array Edge} {l : List Oper} {av : AV} (hj : ops[j]? = some oj) (hdj : oj.dst = some dj) (hl : look fr dj = some (Ab t)) (ht : t = b) (hjn : Nat.blt dj n = true)
    (hD : D P n H op ty fr av) (hdn : Nat.blt d n = true) (h : SimL P f n ops l k ((d, av) :: fr) H x X K) : SimL P f n ops (⟨some d, op, ty, pos, aft, some (j, b)⟩ :: l) k fr H x X K := by
  intro is hs r hr w0 F0 Z0 w F Z tmps hn hi hf
  cases is with
  | nil => simp at hs
  | cons i is =>
    simp only [List.map_cons, List.cons.injEq] at hs
    have hdn' : d < n := by simpa [Nat.blt_eq] using hdn
    have hjn' : dj < n := by simpa [Nat.blt_eq] using hjn
    have hy := yield_of hj hdj (by omega) (hf dj _ hl)
    refine does_run (d := d) rfl hdn' hs.1 (by simp [Region.wanted, hy, ht]) hn hi (hD _ rfl rfl w0 F0 Z0 w F Z tmps hn hi (hf.on _)) ?_
    intro v w' Z' hi' hz hk hv
    exact h is hs.2 r hr w0 F0 Z0 w' F Z' _ (by simpa using hn) hi' ((hf.st hz hk).put (by omega) hv)

/-- Behind a guard that is not met: nothing runs. -/
theorem sQu {ops : Array Oper} {d j dj : Nat} {oj : Oper} {t b : Bool} {op : Op} {ty : TypeId} {pos : String} {aft : Array Edge} {l : List Oper} (hj : ops[j]? = some oj) (hdj : oj.dst = some dj) (hl : look fr dj = some (Ab t)) (ht : t = !b) (hjn : Nat.blt dj n = true)
    (hdn : Nat.blt d n = true) (h : SimL P f n ops l k ((d, .lit undef) :: fr) H x X K) : SimL P f n ops (⟨some d, op, ty, pos, aft, some (j, b)⟩ :: l) k fr H x X K := by
  intro is hs r hr w0 F0 Z0 w F Z tmps hn hi hf
  cases is with
  | nil => simp at hs
  | cons i is =>
    simp only [List.map_cons, List.cons.injEq] at hs
    have hdn' : d < n := by simpa [Nat.blt_eq] using hdn
    have hjn' : dj < n := by simpa [Nat.blt_eq] using hjn
    have hy := yield_of hj hdj (by omega) (hf dj _ hl)
    refine .unwanted hs.1 (by subst ht; cases b <;> simp [Region.wanted, hy]) ?_
    exact h is hs.2 r hr w0 F0 Z0 w F Z _ (by simpa [putT] using hn) hi (hf.put (by omega) rfl)

theorem yield_none {ops : Array Oper} {j d : Nat} {oj : Oper} {tmps : Array Value} (hj : ops[j]? = some oj) (hd : oj.dst = some d) (hdn : d < tmps.size) (hv : tmps.getD d undef = undef) : yielded ops tmps j = none := by
  have : tmps[d]? = some undef := by
    rw [Array.getD_eq_getD_getElem?] at hv
    rw [Array.getElem?_eq_getElem hdn] at hv ⊢
    simpa using hv
  simp [yielded, hj, hd, this, undef]
/-- Behind a guard that did not run itself. -/
theorem sQv {ops : Array Oper} {d j dj : Nat} {oj : Oper} {b : Bool} {op : Op} {ty : TypeId} {pos : String} {aft : Array Edge} {l : List Oper} (hj : ops[j]? = some oj) (hdj : oj.dst = some dj) (hl : look fr dj = some (.lit undef)) (hjn : Nat.blt dj n = true)
    (hdn : Nat.blt d n = true) (h : SimL P f n ops l k ((d, .lit undef) :: fr) H x X K) : SimL P f n ops (⟨some d, op, ty, pos, aft, some (j, b)⟩ :: l) k fr H x X K := by
  intro is hs r hr w0 F0 Z0 w F Z tmps hn hi hf
  cases is with
  | nil => simp at hs
  | cons i is =>
    simp only [List.map_cons, List.cons.injEq] at hs
    have hdn' : d < n := by simpa [Nat.blt_eq] using hdn
    have hjn' : dj < n := by simpa [Nat.blt_eq] using hjn
    have hy := yield_none hj hdj (by omega) (hf dj _ hl)
    refine .unwanted hs.1 (by simp [Region.wanted, hy]) ?_
    exact h is hs.2 r hr w0 F0 Z0 w F Z _ (by simpa [putT] using hn) hi (hf.put (by omega) rfl)

/-- A test on a slot that holds a truth value. -/
theorem sCondT {c : Nat} {a b : Code} {t : Bool} (hl : look fr c = some (Ab t)) (ht : t = true) (h : Sim P f n (.code a :: k) fr H x X K) : Sim P f n (.code (.cond (.tmp c) a b) :: k) fr H x X K := by
  intro r hr w0 F0 Z0 w F Z tmps hn hi hf
  subst ht
  exact .cond (t := true) (hf c _ hl) (h r hr w0 F0 Z0 w F Z tmps hn hi hf)
theorem sCondF {c : Nat} {a b : Code} {t : Bool} (hl : look fr c = some (Ab t)) (ht : t = false) (h : Sim P f n (.code b :: k) fr H x X K) : Sim P f n (.code (.cond (.tmp c) a b) :: k) fr H x X K := by
  intro r hr w0 F0 Z0 w F Z tmps hn hi hf
  subst ht
  exact .cond (t := false) (hf c _ hl) (h r hr w0 F0 Z0 w F Z tmps hn hi hf)
theorem sCond {c : Nat} {a b : Code} {p : Prop} [hp : Decidable p] {y : Option ρ} (hl : look fr c = some (Ab (decide p))) (h : p → Sim P f n (.code a :: k) fr H x X K) (h' : ¬ p → Sim P f n (.code b :: k) fr H y X K) :
    Sim P f n (.code (.cond (.tmp c) a b) :: k) fr H (if p then x else y) X K :=
  sIte (fun hp => sCondT hl (by simpa using hp) (h hp)) (fun hp => sCondF hl (by simpa using hp) (h' hp))
theorem sCondB {c : Nat} {a b : Code} {t : Bool} {y : Option ρ} (hl : look fr c = some (Ab t)) (h : t = true → Sim P f n (.code a :: k) fr H x X K) (h' : t = false → Sim P f n (.code b :: k) fr H y X K) :
    Sim P f n (.code (.cond (.tmp c) a b) :: k) fr H (if t = true then x else y) X K :=
  sIte (fun hp => sCondT hl hp (h hp)) (fun hp => sCondF hl (by simpa using hp) (h' (by simpa using hp)))

/-! ## Loops -/

def thenK {ρ σ R : Type} (X' : σ → Option ρ) (X : ρ → Option R) : σ → Option R := fun s => (X' s).bind X
/-- A loop out of which the function may return. -/
def brk {σ ρ : Type} (l : Option (σ ⊕ ρ)) (X' : σ → Option ρ) : Option ρ := l.bind fun | .inl s => X' s | .inr r => some r
def brkK {σ ρ R : Type} (X' : σ → Option ρ) (X : ρ → Option R) : σ ⊕ ρ → Option R := fun | .inl s => (X' s).bind X | .inr r => X r

def Sub : Fr → Fr → Prop
  | [], _ => True
  | (t, a) :: l, fr => look fr t = some a ∧ Sub l fr

theorem Sub.look {l fr : Fr} (h : Sub l fr) {t : Nat} {a : AV} (hl : look l t = some a) : look fr t = some a := by
  induction l with
  | nil => simp [S.look] at hl
  | cons p l ih =>
    obtain ⟨u, b⟩ := p
    simp only [S.look] at hl
    by_cases e : u = t
    · subst e; simp at hl; subst hl; exact h.1
    · have : (u == t) = false := by simpa using e
      rw [this] at hl; exact ih h.2 (by simpa using hl)

def pickH (H : List Res) : List Nat → Option (List Res)
  | [] => some []
  | j :: js => match H[j]?, pickH H js with
    | some r, some rs => some (r :: rs)
    | _, _ => none

/-- The j-th resource, and the others. -/
theorem HAll.take {H : List Res} : ∀ {j : Nat} {r : Res} {Z F : Nat → Prop} {w : World}, HAll H Z w F → H[j]? = some r → ∃ F1 F2 : Nat → Prop, r.h Z w F1 ∧ HAll (H.eraseIdx j) Z w F2 ∧ (∀ b, F1 b → F b ∧ ¬ F2 b) ∧ (∀ b, F2 b → F b) := by
  induction H with
  | nil => intro j r Z F w _ h; simp at h
  | cons a H ih =>
    rintro j r Z F w ⟨F1, F2, h1, h2, d1, d2⟩ hj
    cases j with
    | zero => simp at hj; subst hj; exact ⟨F1, F2, h1, h2, d1, d2⟩
    | succ j =>
      simp at hj
      obtain ⟨G1, G2, g1, g2, e1, e2⟩ := ih h2 hj
      refine ⟨G1, fun b => F1 b ∨ G2 b, g1, ⟨F1, G2, h1, g2, fun b hb => ⟨.inl hb, fun hg => (d1 b hb).2 (e2 b hg)⟩, fun b hb => .inr hb⟩, fun b hb => ⟨d2 b (e1 b hb).1, ?_⟩, fun b hb => hb.elim (fun x => (d1 b x).1) (fun x => d2 b (e2 b x))⟩
      rintro (x | x)
      · exact (d1 b x).2 (e1 b hb).1
      · exact (e1 b hb).2 x

/-- The j-th resource turned. -/
theorem HAll.set {H : List Res} : ∀ {j : Nat} {r r' : Res} {Z F : Nat → Prop} {w : World}, H[j]? = some r → HAll H Z w F → ∃ F1 : Nat → Prop, r.h Z w F1 ∧ (∀ b, F1 b → F b) ∧
    ∀ (Z' : Nat → Prop) (w' : World) (G1 : Nat → Prop), (∀ b, Z b → Z' b) → Keep (fun b => Z b ∨ (F b ∧ ¬ F1 b)) w w' → r'.h Z' w' G1 → (∀ b, G1 b → F1 b ∨ ¬ F b) → HAll (H.set j r') Z' w' (fun b => F b ∨ G1 b) := by
  induction H with
  | nil => intro j r r' Z F w h; simp at h
  | cons a H ih =>
    rintro j r r' Z F w hj ⟨F1, F2, h1, h2, d1, d2⟩
    cases j with
    | zero =>
      simp at hj; subst hj
      refine ⟨F1, h1, fun b hb => (d1 b hb).1, fun Z' w' G1 hz hk hg hG => ?_⟩
      refine ⟨G1, F2, hg, h2.st hz fun b hb => hk b (hb.imp id fun x => ⟨d2 b x, fun y => (d1 b y).2 x⟩), fun b hb => ⟨.inr hb, fun x => ?_⟩, fun b hb => .inl (d2 b hb)⟩
      rcases hG b hb with y | y
      · exact (d1 b y).2 x
      · exact y (d2 b x)
    | succ j =>
      simp at hj
      obtain ⟨E1, e1, ee, hset⟩ := ih (r' := r') hj h2
      refine ⟨E1, e1, fun b hb => d2 b (ee b hb), fun Z' w' G1 hz hk hg hG => ?_⟩
      have hs := hset Z' w' G1 hz (fun b hb => hk b (hb.imp id fun x => ⟨d2 b x.1, x.2⟩)) hg (fun b hb => (hG b hb).imp id fun y z => y (d2 b z))
      refine ⟨F1, fun b => F2 b ∨ G1 b, a.st hz (fun b hb => hk b (hb.imp id fun x => ⟨(d1 b x).1, fun y => (d1 b x).2 (ee b y)⟩)) h1, hs, fun b hb => ⟨.inl (d1 b hb).1, ?_⟩, fun b hb => hb.imp (d2 b) id⟩
      rintro (y | y)
      · exact (d1 b hb).2 y
      · rcases hG b y with z | z
        · exact (d1 b hb).2 (ee b z)
        · exact z (d1 b hb).1

theorem HAll.drop {H : List Res} : ∀ {Z F : Nat → Prop} {w : World} (m : Nat), HAll H Z w F → HAll (H.drop m) Z w F := by
  induction H with
  | nil => intro Z F w m h; simpa using h
  | cons a H ih =>
    rintro Z F w m ⟨F1, F2, h1, h2, d1, d2⟩
    cases m with
    | zero => exact ⟨F1, F2, h1, h2, d1, d2⟩
    | succ m => exact (ih m h2).wide d2

theorem HAll.erase {H : List Res} : ∀ {Z F : Nat → Prop} {w : World} (m : Nat), HAll H Z w F → HAll (H.eraseIdx m) Z w F := by
  induction H with
  | nil => intro Z F w m h; simpa using h
  | cons a H ih =>
    rintro Z F w m ⟨F1, F2, h1, h2, d1, d2⟩
    cases m with
    | zero => exact h2.wide d2
    | succ m => exact ⟨F1, F2, h1, ih m h2, d1, d2⟩

def dropAll (H : List Res) : List Nat → List Res
  | [] => H
  | j :: js => dropAll (H.eraseIdx j) js

theorem HAll.dropAll {Z F : Nat → Prop} {w : World} (js : List Nat) : ∀ {H : List Res}, HAll H Z w F → HAll (S.dropAll H js) Z w F := by
  induction js with
  | nil => intro H h; exact h
  | cons j js ih => intro H h; exact ih (h.erase j)

theorem Inv.less {w0 w : World} {F0 Z0 F Z : Nat → Prop} {H H' : List Res} (h : Inv w0 w F0 Z0 F Z H) (hr : HAll H Z w F → HAll H' Z w F) : Inv w0 w F0 Z0 F Z H' := ⟨h.base, h.z0, h.zin, h.fin, hr h.res⟩

/-- Less is known: of slots, of what is owned (js: what is dropped, one by one). -/
theorem sWk (js : List Nat) {fr' : Fr} {H' : List Res} (hs : Sub fr' fr) (hH : S.dropAll H js = H') (h : Sim P f n k fr' H' x X K) : Sim P f n k fr H x X K := by
  subst hH
  exact fun r hr w0 F0 Z0 w F Z tmps hn hi hf => h r hr w0 F0 Z0 w F Z tmps hn (hi.less (·.dropAll js)) (fun t a ht => hf t a (hs.look ht))

/-- A loop in its block: l is its Lean function; A, B (A', B'): the frame and what is owned at its head (behind it), out of its state and of what the term does not tell (γ). -/
theorem sLoop {c : Code} {id : Nat} {σ σ' γ γ' : Type} {X' : σ' → Option ρ} (l : Nat → σ → Option σ') (A : σ → γ → Fr) (B : σ → γ → List Res) (A' : σ' → γ' → Fr) (B' : σ' → γ' → List Res) {s0 : σ} (g0 : γ) {m : Nat} (h0 : ∀ s, l 0 s = none) (js : List Nat) (hs : Sub (A s0 g0) fr) (hH : S.dropAll H js = B s0 g0)
    (hx : ∀ s g, Sim P f n k (A' s g) (B' s g) (X' s) X K)
    (body : ∀ m s g, (∀ s' g', Sim P f n (.inLoop c :: .inBlock id :: k) (A s' g') (B s' g') (l m s') (thenK X' X) K) → (∀ s' g', Sim P f n k (A' s' g') (B' s' g') (some s') (thenK X' X) K) → Sim P f n (.code c :: .inLoop c :: .inBlock id :: k) (A s g) (B s g) (l (m + 1) s) (thenK X' X) K) :
    Sim P f n (.code (.block id (.loop c)) :: k) fr H ((l m s0).bind X') X K := by
  have key : ∀ m s g, Sim P f n (.code c :: .inLoop c :: .inBlock id :: k) (A s g) (B s g) (l m s) (thenK X' X) K := by
    intro m
    induction m with
    | zero => intro s g r hr; rw [h0] at hr; cases hr
    | succ m ih => exact fun s g => body m s g (fun s' g' r hr w0 F0 Z0 w F Z tmps hn hi hf => .inLoop (ih s' g' r hr w0 F0 Z0 w F Z tmps hn hi hf)) (fun s' g' r hr => hx s' g' r hr)
  intro r hr w0 F0 Z0 w F Z tmps hn hi hf
  refine .block (.loop (key m s0 g0 r ?_ w0 F0 Z0 w F Z tmps hn (hi.less fun h => hH ▸ h.dropAll js) (fun t a ht => hf t a (hs.look ht))))
  rw [← hr]; cases l m s0 <;> rfl

/-- The same, out of which the function may return. -/
theorem sLoopR {c : Code} {id : Nat} {σ σ' γ γ' : Type} {X' : σ' → Option ρ} (l : Nat → σ → Option (σ' ⊕ ρ)) (A : σ → γ → Fr) (B : σ → γ → List Res) (A' : σ' → γ' → Fr) (B' : σ' → γ' → List Res) {s0 : σ} (g0 : γ) {m : Nat} (h0 : ∀ s, l 0 s = none) (js : List Nat) (hs : Sub (A s0 g0) fr) (hH : S.dropAll H js = B s0 g0)
    (hx : ∀ s g, Sim P f n k (A' s g) (B' s g) (X' s) X K)
    (body : ∀ m s g, (∀ s' g', Sim P f n (.inLoop c :: .inBlock id :: k) (A s' g') (B s' g') (l m s') (brkK X' X) K) → (∀ s' g', Sim P f n k (A' s' g') (B' s' g') (some (.inl s')) (brkK X' X) K) → Sim P f n (.code c :: .inLoop c :: .inBlock id :: k) (A s g) (B s g) (l (m + 1) s) (brkK X' X) K) :
    Sim P f n (.code (.block id (.loop c)) :: k) fr H (brk (l m s0) X') X K := by
  have key : ∀ m s g, Sim P f n (.code c :: .inLoop c :: .inBlock id :: k) (A s g) (B s g) (l m s) (brkK X' X) K := by
    intro m
    induction m with
    | zero => intro s g r hr; rw [h0] at hr; cases hr
    | succ m ih => exact fun s g => body m s g (fun s' g' r hr w0 F0 Z0 w F Z tmps hn hi hf => .inLoop (ih s' g' r hr w0 F0 Z0 w F Z tmps hn hi hf)) (fun s' g' r hr => hx s' g' r hr)
  intro r hr w0 F0 Z0 w F Z tmps hn hi hf
  refine .block (.loop (key m s0 g0 r ?_ w0 F0 Z0 w F Z tmps hn (hi.less fun h => hH ▸ h.dropAll js) (fun t a ht => hf t a (hs.look ht))))
  rw [← hr]
  unfold brk
  cases l m s0 with
  | none => rfl
  | some q => cases q <;> rfl

/-- The same, its parts in another row. -/
theorem sAg {fr' : Fr} {H' : List Res} (h : Sim P f n k fr' H' x X K) (js : List Nat) (hs : Sub fr' fr) (hH : S.dropAll H js = H') : Sim P f n k fr H x X K := sWk js hs hH h

/-- The round is over: the loop's head again. -/
theorem sAgain {c : Code} {fr' : Fr} {H' : List Res} (js : List Nat) (h : Sim P f n (.inLoop c :: k) fr' H' x X K) (hs : Sub fr' fr) (hH : S.dropAll H js = H') : Sim P f n (.inLoop c :: k) fr H x X K := sWk js hs hH h

/-- What is owned is left. -/
theorem sDr (h : Sim P f n k fr [] x X K) : Sim P f n k fr H x X K := fun r hr w0 F0 Z0 w F Z tmps hn hi hf => h r hr w0 F0 Z0 w F Z tmps hn (hi.less fun _ => trivial) hf
theorem sOut {σ : Type} {q : ρ} {X' : σ → Option ρ} (h : Sim P f n k fr H (some q) X K) : Sim P f n k fr H (some (.inr q)) (brkK X' X) K := fun r hr => h r hr

/-- Ways that meet again: y tells what differs. -/
theorem sJoin1 {σ γ : Type} {a : Item} {y : Option σ} {Y : σ → Option ρ} (A : σ → γ → Fr) (B : σ → γ → List Res) (h1 : ∀ s g, Sim P f n k (A s g) (B s g) (Y s) X K)
    (h2 : (∀ s g, Sim P f n k (A s g) (B s g) (some s) (thenK Y X) K) → Sim P f n (a :: k) fr H y (thenK Y X) K) : Sim P f n (a :: k) fr H (y.bind Y) X K := by
  intro r hr
  refine h2 (fun s g r hr => h1 s g r hr) r ?_
  rw [← hr]
  cases y <;> rfl
theorem sJoin2 {σ γ : Type} {a b : Item} {y : Option σ} {Y : σ → Option ρ} (A : σ → γ → Fr) (B : σ → γ → List Res) (h1 : ∀ s g, Sim P f n k (A s g) (B s g) (Y s) X K)
    (h2 : (∀ s g, Sim P f n k (A s g) (B s g) (some s) (thenK Y X) K) → Sim P f n (a :: b :: k) fr H y (thenK Y X) K) : Sim P f n (a :: b :: k) fr H (y.bind Y) X K := by
  intro r hr
  refine h2 (fun s g r hr => h1 s g r hr) r ?_
  rw [← hr]
  cases y <;> rfl
theorem sJoinR1 {σ γ : Type} {a : Item} {y : Option (σ ⊕ ρ)} {Y : σ → Option ρ} (A : σ → γ → Fr) (B : σ → γ → List Res) (h1 : ∀ s g, Sim P f n k (A s g) (B s g) (Y s) X K)
    (h2 : (∀ s g, Sim P f n k (A s g) (B s g) (some (.inl s)) (brkK Y X) K) → Sim P f n (a :: k) fr H y (brkK Y X) K) : Sim P f n (a :: k) fr H (brk y Y) X K := by
  intro r hr
  refine h2 (fun s g r hr => h1 s g r hr) r ?_
  rw [← hr]
  cases y with
  | none => rfl
  | some q => cases q <;> rfl
theorem sJoinR2 {σ γ : Type} {a b : Item} {y : Option (σ ⊕ ρ)} {Y : σ → Option ρ} (A : σ → γ → Fr) (B : σ → γ → List Res) (h1 : ∀ s g, Sim P f n k (A s g) (B s g) (Y s) X K)
    (h2 : (∀ s g, Sim P f n k (A s g) (B s g) (some (.inl s)) (brkK Y X) K) → Sim P f n (a :: b :: k) fr H y (brkK Y X) K) : Sim P f n (a :: b :: k) fr H (brk y Y) X K := by
  intro r hr
  refine h2 (fun s g r hr => h1 s g r hr) r ?_
  rw [← hr]
  cases y with
  | none => rfl
  | some q => cases q <;> rfl

end

end S
end Go.Proofs.Ytpjhcllohagjoaa
