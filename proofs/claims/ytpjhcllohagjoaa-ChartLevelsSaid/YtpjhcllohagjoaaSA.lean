/-
  Sim: symbolic execution of lowered Go code over abstract values. The core: what a frame's slots hold (AV), what memory the call owns (Res), and 'Sim': the code, run from here on, returns what the typed Lean term says. Own work; no claim stands here.
-/
import Derived.Calls
import Derived.Laws.AppendOwn
import Derived.Laws.MakeOwn
import Derived.Below
import Derived.WalkKit
import Derived.KernelRfl
namespace Go.Proofs.Ytpjhcllohagjoaa
namespace S
open Go.RowKit

/-! ## What is drawn grows -/
theorem ask_drawn {α : Type} (a : Ask α) : ∀ w : World, w.drawn ≤ (w.ask a).2.drawn := by
  induction a with
  | done a => intro w; exact Nat.le_refl _
  | ask what range k ih =>
    intro w
    simp only [World.ask]
    split
    · exact ih _ w
    · exact Nat.le_trans (Nat.le_succ _) (ih _ { w with drawn := w.drawn + 1 })
theorem sys_drawn (w : World) (c : Sys) : w.drawn ≤ (w.sys c).2.drawn := by
  unfold World.sys
  have := ask_drawn (Kernel.perform c w.os) w
  split
  · exact Nat.le_refl _
  · rename_i h; rw [h] at this; exact this
theorem viewStore_drawn (p : Program) (w : World) (a : Addr) (u : TypeId) (k : Addr) (v : Value) (b : Bool) (r : World × List Addr) (h : w.viewStore p a u k v b = .ok r) : r.1.drawn = w.drawn := by
  unfold World.viewStore at h
  simp only [bind, Except.bind, pure, Except.pure] at h
  repeat' split at h
  all_goals first | cases h; done | (cases h; rfl) | skip
theorem farStore_drawn (p : Program) (w : World) (a : Addr) (v : Value) (b : Bool) (r : World × List Addr) (h : w.farStore p a v b = .ok r) : r.1.drawn = w.drawn := by
  unfold World.farStore at h
  split at h
  · split at h
    · rename_i hr; cases h; exact viewStore_drawn p w _ _ _ _ _ _ hr
    · cases h
  · cases h
theorem freeze_drawn (w : World) (a : Addr) (n : Nat) : (w.freeze a n).drawn = w.drawn := by unfold World.freeze; split <;> rfl
theorem run_drawn {P : Program} {α : Type} (s : Sem α) : ∀ {w w' : World} {v : α}, s.run P w = .ok v w' → w.drawn ≤ w'.drawn := by
  induction s with
  | pure a => intro w w' v h; simp only [Sem.run] at h; cases h; exact Nat.le_refl _
  | load m a k ih =>
    intro w w' v h; simp only [Sem.run] at h
    split at h
    · exact ih _ h
    · split at h
      · exact ih _ h
      · cases h
  | store m a u k ih =>
    intro w w' v h
    have key : (match w.cell? a with
        | some _ => if w.frozen? a then (.halt (.unsupported (.unsafePointer "a write to bytes that a string shares")) w : Result _) else k.run P (w.setCell a u)
        | none => match w.farStore P a u (m == Mode.atomic) with
          | .ok (w, _) => k.run P w
          | .error h => .halt h w) = .ok v w' := by
      cases u <;> simp only [Sem.run] at h <;> first | exact h | cases h
    split at key
    · split at key
      · cases key
      · have h2 := ih key; exact h2
    · split at key
      · rename_i hr
        have h2 := ih key
        have h3 := farStore_drawn _ _ _ _ _ _ hr
        simp only at h3
        omega
      · cases key
  | new o k ih => intro w w' v h; simp only [Sem.run] at h; have h2 := ih _ h; exact h2
  | shape r k ih => intro w w' v h; simp only [Sem.run] at h; exact ih _ h
  | freeze a n k ih => intro w w' v h; simp only [Sem.run] at h; have := ih h; rw [freeze_drawn] at this; exact this
  | frozen a k ih => intro w w' v h; simp only [Sem.run] at h; exact ih _ h
  | getObj r k ih =>
    intro w w' v h; simp only [Sem.run] at h
    split at h
    · cases h
    · exact ih _ h
    · cases h
  | setObj r o k ih =>
    intro w w' v h; simp only [Sem.run] at h
    split at h
    · cases h
    · have h2 := ih h; exact h2
    · cases h
  | choose q k ih =>
    intro w w' v h; simp only [Sem.run] at h
    split at h
    · exact ih _ h
    · exact Nat.le_trans (Nat.le_succ _) (ih _ h)
  | sys c k ih => intro w w' v h; simp only [Sem.run] at h; exact Nat.le_trans (sys_drawn w c) (ih _ h)
  | program k ih => intro w w' v h; simp only [Sem.run] at h; exact ih _ h
  | mark m k ih => intro w w' v h; simp only [Sem.run] at h; exact ih h
  | halt h' => intro w w' v h; simp only [Sem.run] at h; cases h

/-! ## Words -/

theorem le_ {a b : Nat} (h : Nat.ble a b = true) : a ≤ b := Nat.le_of_ble_eq_true h

def Keep (Z : Nat → Prop) (w w' : World) : Prop := ∀ b, Z b → w'.heap[b]? = w.heap[b]?

theorem Keep.refl (Z : Nat → Prop) (w : World) : Keep Z w w := fun _ _ => rfl
theorem Keep.trans {Z : Nat → Prop} {a b c : World} (h : Keep Z a b) (k : Keep Z b c) : Keep Z a c := fun i hi => (k i hi).trans (h i hi)
theorem Keep.cell {Z : Nat → Prop} {w w' : World} (h : Keep Z w w') {a : Addr} (ha : Z a.block) : w'.cell? a = w.cell? a := World.cell?_of_block (h _ ha)

/-- An abstract value: what a value is, in a world in which the blocks of Z are not written any more. -/
structure AV where
  p : (Nat → Prop) → World → Value → Prop
  st : ∀ {Z Z' : Nat → Prop} {w w' : World} {v : Value}, (∀ b, Z b → Z' b) → Keep Z w w' → p Z w v → p Z' w' v

/-- Memory that the call owns, on the blocks F. -/
structure Res where
  h : (Nat → Prop) → World → (Nat → Prop) → Prop
  st : ∀ {Z Z' F : Nat → Prop} {w w' : World}, (∀ b, Z b → Z' b) → Keep (fun b => Z b ∨ F b) w w' → h Z w F → h Z' w' F

abbrev Fr := List (Nat × AV)

def look : Fr → Nat → Option AV
  | [], _ => none
  | (t, a) :: l, u => bif t == u then some a else look l u

def FrOk (fr : Fr) (Z : Nat → Prop) (w : World) (tmps : Array Value) : Prop := ∀ t a, look fr t = some a → a.p Z w (tmps.getD t undef)

def HAll : List Res → (Nat → Prop) → World → (Nat → Prop) → Prop
  | [], _, _, _ => True
  | r :: rs, Z, w, F => ∃ F1 F2, r.h Z w F1 ∧ HAll rs Z w F2 ∧ (∀ b, F1 b → F b ∧ ¬ F2 b) ∧ (∀ b, F2 b → F b)

theorem HAll.st {H : List Res} : ∀ {Z Z' F : Nat → Prop} {w w' : World}, (∀ b, Z b → Z' b) → Keep (fun b => Z b ∨ F b) w w' → HAll H Z w F → HAll H Z' w' F := by
  induction H with
  | nil => intros; trivial
  | cons r rs ih =>
    rintro Z Z' F w w' hz hk ⟨F1, F2, h1, h2, d1, d2⟩
    exact ⟨F1, F2, r.st hz (fun b hb => hk b (hb.imp id fun x => (d1 b x).1)) h1, ih hz (fun b hb => hk b (hb.imp id (d2 b))) h2, d1, d2⟩

theorem HAll.wide {H : List Res} {Z F F' : Nat → Prop} {w : World} (hf : ∀ b, F b → F' b) (h : HAll H Z w F) : HAll H Z w F' := by
  cases H with
  | nil => trivial
  | cons r rs =>
    obtain ⟨F1, F2, h1, h2, d1, d2⟩ := h
    exact ⟨F1, F2, h1, h2, fun b hb => ⟨hf b (d1 b hb).1, (d1 b hb).2⟩, fun b hb => hf b (d2 b hb)⟩

/-- How a world stands to the one in which the call began: what the call did not own is as it was. -/
structure Base (w0 w : World) (F0 : Nat → Prop) : Prop where
  os : w.os = w0.os
  tape : w.tape = w0.tape
  output : w.output = w0.output
  drawn : w0.drawn ≤ w.drawn
  size : w0.heap.size ≤ w.heap.size
  keep : ∀ b, b < w0.heap.size → ¬ F0 b → w.heap[b]? = w0.heap[b]?

theorem Base.refl (w : World) (F0 : Nat → Prop) : Base w w F0 := ⟨rfl, rfl, rfl, Nat.le_refl _, Nat.le_refl _, fun _ _ _ => rfl⟩

structure Inv (w0 w : World) (F0 Z0 F Z : Nat → Prop) (H : List Res) : Prop where
  base : Base w0 w F0
  z0 : ∀ b, Z0 b → Z b
  zin : ∀ b, Z b → b < w.heap.size ∧ (Z0 b ∨ F0 b ∨ w0.heap.size ≤ b)
  fin : ∀ b, F b → b < w.heap.size ∧ (F0 b ∨ w0.heap.size ≤ b) ∧ ¬ Z b
  res : HAll H Z w F

/-- A step of the world that writes nothing that was there but blocks of F1. -/
structure Step (w w' : World) (F1 : Nat → Prop) : Prop where
  os : w'.os = w.os
  tape : w'.tape = w.tape
  output : w'.output = w.output
  drawn : w.drawn ≤ w'.drawn
  size : w.heap.size ≤ w'.heap.size
  keep : ∀ b, b < w.heap.size → ¬ F1 b → w'.heap[b]? = w.heap[b]?

theorem Step.refl (w : World) (F1 : Nat → Prop) : Step w w F1 := ⟨rfl, rfl, rfl, Nat.le_refl _, Nat.le_refl _, fun _ _ _ => rfl⟩
theorem Step.alloc (w : World) (o : Obj) (F1 : Nat → Prop) : Step w (w.alloc o) F1 := ⟨rfl, rfl, rfl, Nat.le_refl _, by simp, fun b hb _ => Below.heap_alloc w o b hb⟩
theorem Step.set (w : World) (a : Addr) (u : Value) (F1 : Nat → Prop) (h : F1 a.block) : Step w (w.setCell a u) F1 :=
  ⟨rfl, rfl, rfl, Nat.le_refl _, by simp [World.setCell], fun b _ hf => Below.heap_setCell w a u b (fun e => hf (e ▸ h))⟩
theorem Step.of_below {w w' : World} (h : Below w.heap.size w w') (hd : w.drawn ≤ w'.drawn) (F1 : Nat → Prop) : Step w w' F1 := ⟨h.os, h.tape, h.output, hd, h.size, fun b hb _ => h.block b hb⟩
theorem Step.of_grown {w w' : World} {row : Option Nat} (h : w.grownBy w' row) (hd : w.drawn ≤ w'.drawn) (F1 : Nat → Prop) (hr : ∀ k, row = some k → F1 k) : Step w w' F1 :=
  ⟨h.os, h.tape, h.output, hd, h.size, fun b hb hf => h.block b hb (fun e => hf (hr b e.symm))⟩
theorem Step.mono {w w' : World} {F1 F2 : Nat → Prop} (h : Step w w' F1) (hf : ∀ b, F1 b → F2 b) : Step w w' F2 := ⟨h.os, h.tape, h.output, h.drawn, h.size, fun b hb hn => h.keep b hb (fun x => hn (hf b x))⟩
theorem Step.drew (w : World) (F1 : Nat → Prop) : Step w { w with drawn := w.drawn + 1 } F1 := ⟨rfl, rfl, rfl, Nat.le_succ _, Nat.le_refl _, fun _ _ _ => rfl⟩

theorem Inv.base_step {w0 w w' : World} {F0 Z0 F Z F1 : Nat → Prop} {H : List Res} (h : Inv w0 w F0 Z0 F Z H) (s : Step w w' F1) (hf : ∀ b, F1 b → F b) : Base w0 w' F0 :=
  ⟨s.os.trans h.base.os, s.tape.trans h.base.tape, s.output.trans h.base.output, Nat.le_trans h.base.drawn s.drawn, Nat.le_trans h.base.size s.size, fun b hb hn => by
    rw [s.keep b (Nat.lt_of_lt_of_le hb h.base.size) (fun x => ?_), h.base.keep b hb hn]
    rcases (h.fin b (hf b x)).2.1 with y | y
    · exact hn y
    · omega⟩

theorem Inv.keepZ {w0 w w' : World} {F0 Z0 F Z F1 : Nat → Prop} {H : List Res} (h : Inv w0 w F0 Z0 F Z H) (s : Step w w' F1) (hf : ∀ b, F1 b → F b) : Keep Z w w' := fun b hb =>
  s.keep b (h.zin b hb).1 (fun x => (h.fin b (hf b x)).2.2 hb)

theorem Step.keep' {w0 w w' : World} {F0 Z0 F Z : Nat → Prop} {H : List Res} (s : Step w w' (fun _ => False)) (h : Inv w0 w F0 Z0 F Z H) : Keep Z w w' := h.keepZ s (fun _ x => x.elim)

/-- The world goes on; Z may grow by new blocks; what is owned now is told anew. -/
theorem Inv.step {w0 w w' : World} {F0 Z0 F Z F1 F' Z' : Nat → Prop} {H H' : List Res} (h : Inv w0 w F0 Z0 F Z H) (s : Step w w' F1) (hf : ∀ b, F1 b → F b)
    (hz : ∀ b, Z b → Z' b) (hz' : ∀ b, Z' b → Z b ∨ F b ∨ (w.heap.size ≤ b ∧ b < w'.heap.size)) (hF : ∀ b, F' b → (F b ∨ (w.heap.size ≤ b ∧ b < w'.heap.size)) ∧ ¬ Z' b) (hr : HAll H' Z' w' F') : Inv w0 w' F0 Z0 F' Z' H' := by
  refine ⟨h.base_step s hf, fun b hb => hz b (h.z0 b hb), fun b hb => ?_, fun b hb => ?_, hr⟩
  · rcases hz' b hb with x | x | x
    · exact ⟨Nat.lt_of_lt_of_le (h.zin b x).1 s.size, (h.zin b x).2⟩
    · exact ⟨Nat.lt_of_lt_of_le (h.fin b x).1 s.size, (h.fin b x).2.1.elim (fun y => .inr (.inl y)) (fun y => .inr (.inr y))⟩
    · exact ⟨x.2, .inr (.inr (Nat.le_trans h.base.size x.1))⟩
  · obtain ⟨x, hn⟩ := hF b hb
    rcases x with x | x
    · exact ⟨Nat.lt_of_lt_of_le (h.fin b x).1 s.size, (h.fin b x).2.1, hn⟩
    · exact ⟨x.2, .inr (Nat.le_trans h.base.size x.1), hn⟩

/-- Nothing that is owned is written; Z may grow by new blocks. -/
theorem Inv.quiet {w0 w w' : World} {F0 Z0 F Z Z' : Nat → Prop} {H : List Res} (h : Inv w0 w F0 Z0 F Z H) (s : Step w w' (fun _ => False))
    (hz : ∀ b, Z b → Z' b) (hz' : ∀ b, Z' b → Z b ∨ (w.heap.size ≤ b ∧ b < w'.heap.size)) : Inv w0 w' F0 Z0 F Z' H :=
  h.step s (fun _ x => x.elim) hz (fun b hb => (hz' b hb).imp id .inr) (fun b hb => ⟨.inl hb, fun x => by
      rcases hz' b x with y | y
      · exact (h.fin b hb).2.2 y
      · have := (h.fin b hb).1; omega⟩)
    (h.res.st hz (fun b hb => s.keep b (hb.elim (fun x => (h.zin b x).1) (fun x => (h.fin b x).1)) id))

theorem FrOk.st {fr : Fr} {Z Z' : Nat → Prop} {w w' : World} {tmps : Array Value} (h : FrOk fr Z w tmps) (hz : ∀ b, Z b → Z' b) (hk : Keep Z w w') : FrOk fr Z' w' tmps := fun t a ht => a.st hz hk (h t a ht)

theorem getD_set (tmps : Array Value) (d t : Nat) (v : Value) (hd : d < tmps.size) : (tmps.setIfInBounds d v).getD t undef = if d = t then v else tmps.getD t undef := by
  simp only [Array.getD_eq_getD_getElem?, Array.getElem?_setIfInBounds]
  by_cases h : d = t
  · subst h; simp [hd]
  · simp [h]

theorem FrOk.put {fr : Fr} {Z : Nat → Prop} {w : World} {tmps : Array Value} {d : Nat} {v : Value} {av : AV} (h : FrOk fr Z w tmps) (hd : d < tmps.size) (hv : av.p Z w v) : FrOk ((d, av) :: fr) Z w (tmps.setIfInBounds d v) := by
  intro t a ht
  simp only [look] at ht
  rw [getD_set _ _ _ _ hd]
  by_cases e : d = t
  · subst e; simp at ht; subst ht; simpa using hv
  · have : (d == t) = false := by simpa using e
    rw [this] at ht; simp at ht
    simp only [e, if_false]; exact h t a ht

/-! ## Running -/

def Run (P : Program) (f : FuncId) (todo : List Item) (tmps : Array Value) (w : World) (R : Value → World → Prop) : Prop :=
  ∀ (b : Frame) (cs : List Frame), b.fn = f → b.kind = .normal → ∃ v w' fr, R v w' ∧ Steps P (lone (b.at ⟨tmps, []⟩ todo) cs w) (lone fr cs w') ∧ fr.fn = f ∧ fr.leaving P w' (.returned v)

section
variable {P : Program} {f : FuncId} {k : List Item} {tmps : Array Value} {w : World} {R : Value → World → Prop}
theorem Run.head {todo todo' : List Item} {tmps' : Array Value} {w' : World} (h : Run P f todo' tmps' w' R)
    (s : ∀ (b : Frame) (cs : List Frame), b.kind = .normal → Steps P (lone (b.at ⟨tmps, []⟩ todo) cs w) (lone (b.at ⟨tmps', []⟩ todo') cs w')) : Run P f todo tmps w R := by
  intro b cs hb hk
  obtain ⟨v, w'', fr, r, st, x⟩ := h b cs hb hk
  exact ⟨v, w'', fr, r, Steps.trans (s b cs hk) st, x⟩
theorem Run.mono {todo : List Item} {R' : Value → World → Prop} (h : Run P f todo tmps w R) (hr : ∀ v w', R v w' → R' v w') : Run P f todo tmps w R' := by
  intro b cs hb hk
  obtain ⟨v, w'', fr, r, x⟩ := h b cs hb hk
  exact ⟨v, w'', fr, hr _ _ r, x⟩
theorem Run.seq {x y : Code} (h : Run P f (.code x :: .code y :: k) tmps w R) : Run P f (.code (.seq x y) :: k) tmps w R := h.head fun _ _ _ => .one step_seq
theorem Run.skip (h : Run P f k tmps w R) : Run P f (.code .skip :: k) tmps w R := h.head fun _ _ _ => .one step_skip
theorem Run.block {id : Nat} {c : Code} (h : Run P f (.code c :: .inBlock id :: k) tmps w R) : Run P f (.code (.block id c) :: k) tmps w R := h.head fun _ _ _ => .one step_block
theorem Run.inBlock {id : Nat} (h : Run P f k tmps w R) : Run P f (.inBlock id :: k) tmps w R := h.head fun _ _ _ => .one step_inBlock
theorem Run.loop {c : Code} (h : Run P f (.code c :: .inLoop c :: k) tmps w R) : Run P f (.code (.loop c) :: k) tmps w R := h.head fun _ _ _ => .one step_loop
theorem Run.inLoop {c : Code} (h : Run P f (.code c :: .inLoop c :: k) tmps w R) : Run P f (.inLoop c :: k) tmps w R := h.head fun _ _ _ => .one step_inLoop
theorem Run.exit {id : Nat} {k' : List Item} (he : exitTo id k = some k') (h : Run P f k' tmps w R) : Run P f (.code (.exit id) :: k) tmps w R := h.head fun _ _ _ => .one (step_exit he)
theorem Run.cond {c : Operand} {x y : Code} {t : Bool} (hc : (⟨tmps, []⟩ : Act).eval c = .bool t) (h : Run P f (.code (if t then x else y) :: k) tmps w R) : Run P f (.code (.cond c x y) :: k) tmps w R :=
  h.head fun _ _ _ => .one (step_cond hc)
theorem Run.region {id : Nat} {ops : Array Oper} (h : Run P f (.inRegion ops (List.range ops.size) :: k) tmps w R) : Run P f (.code (.region id ops false) :: k) tmps w R := h.head fun _ _ _ => .one step_region
theorem Run.regionDraw {id : Nat} {ops : Array Oper} (h : ∀ t, Run P f (.inRegion ops (Region.schedule (P.follows .mixedOrders) ops t) :: k) tmps { w with drawn := w.drawn + 1 } R) : Run P f (.code (.region id ops true) :: k) tmps w R := by
  intro b cs hb hk
  obtain ⟨v, w'', fr, r, st, x⟩ := h (w.tape w.drawn (.order b.fn id)) b cs hb hk
  exact ⟨v, w'', fr, r, .head step_region_draw st, x⟩
theorem Run.regionEnd {ops : Array Oper} (h : Run P f k tmps w R) : Run P f (.inRegion ops [] :: k) tmps w R := h.head fun _ _ _ => .one step_region_end

theorem put_act (a : Array Value) (d : Option Tmp) (v : Value) : (⟨a, []⟩ : Act).put d v = ⟨match d with | some d => a.setIfInBounds d v | none => a, []⟩ := by cases d <;> rfl

def putT (a : Array Value) : Option Tmp → Value → Array Value
  | some d, v => a.setIfInBounds d v
  | none, _ => a

theorem Run.value {ops : Array Oper} {i : Nat} {is : List Nat} {o : Oper} {v : Value} {w' : World} (ho : ops[i]? = some o) (hw : Region.wanted o (yielded ops tmps) = true)
    (hr : (execOp (⟨tmps, []⟩ : Act).eval o).run P w = .ok (.value v) w') (h : Run P f (.inRegion ops is :: k) (putT tmps o.dst v) w' R) : Run P f (.inRegion ops (i :: is) :: k) tmps w R := by
  refine h.head fun b cs hk => .one (step_lone_go ?_)
  have hg := stepG_op (P := P) (b := b) (a := ⟨tmps, []⟩) (k := k) (cs := cs) (w := w) (rest := is) ho hw
  have hfin : (b.at ⟨tmps, []⟩ (.inRegion ops (i :: is) :: k)).finish v = b.at ⟨putT tmps o.dst v, []⟩ (.inRegion ops is :: k) := by
    rw [Frame.finish_at, ho]; simp only [Option.bind_some, put_act]; cases o.dst <;> rfl
  rw [hg, ← hfin]; simp [stepG.apply, hr]

theorem Run.skipped {ops : Array Oper} {i : Nat} {is : List Nat} {o : Oper} {w' : World} (ho : ops[i]? = some o) (hw : Region.wanted o (yielded ops tmps) = true)
    (hr : (execOp (⟨tmps, []⟩ : Act).eval o).run P w = .ok .skip w') (h : Run P f (.inRegion ops is :: k) (putT tmps o.dst undef) w' R) : Run P f (.inRegion ops (i :: is) :: k) tmps w R := by
  refine h.head fun b cs hk => .one (step_lone_go ?_)
  have hg := stepG_op (P := P) (b := b) (a := ⟨tmps, []⟩) (k := k) (cs := cs) (w := w) (rest := is) ho hw
  have hfin : (b.at ⟨tmps, []⟩ (.inRegion ops (i :: is) :: k)).finish undef = b.at ⟨putT tmps o.dst undef, []⟩ (.inRegion ops is :: k) := by
    rw [Frame.finish_at, ho]; simp only [Option.bind_some, put_act]; cases o.dst <;> rfl
  rw [hg, ← hfin]; simp [stepG.apply, hr]

theorem Run.unwanted {ops : Array Oper} {i : Nat} {is : List Nat} {o : Oper} (ho : ops[i]? = some o) (hw : Region.wanted o (yielded ops tmps) = false)
    (h : Run P f (.inRegion ops is :: k) (putT tmps o.dst undef) w R) : Run P f (.inRegion ops (i :: is) :: k) tmps w R := by
  refine h.head fun b cs hk => .one ?_
  have hs := step_op_skip (P := P) (b := b) (a := ⟨tmps, []⟩) (k := k) (cs := cs) (w := w) (ops := ops) (i := i) (rest := is) (by simp [ho, hw])
  simp only [ho, Option.bind_some, put_act] at hs
  rw [hs]; cases o.dst <;> rfl

theorem Run.enter {ops : Array Oper} {i : Nat} {is : List Nat} {o : Oper} {g : FuncId} {args : Array Value} {w' : World} {R1 : Ending → World → Prop} (ho : ops[i]? = some o) (hw : Region.wanted o (yielded ops tmps) = true)
    (hr : (execOp (⟨tmps, []⟩ : Act).eval o).run P w = .ok (.enter g args) w') (hc : Calls P g args w' R1)
    (h : ∀ e w'', R1 e w'' → ∃ v, e = .returned v ∧ Run P f (.inRegion ops is :: k) (putT tmps o.dst v) w'' R) : Run P f (.inRegion ops (i :: is) :: k) tmps w R := by
  intro b cs hb hk
  have hg := stepG_op (P := P) (b := b) (a := ⟨tmps, []⟩) (k := k) (cs := cs) (w := w) (rest := is) ho hw
  have hfin : ∀ v, (b.at ⟨tmps, []⟩ (.inRegion ops (i :: is) :: k)).finish v = b.at ⟨putT tmps o.dst v, []⟩ (.inRegion ops is :: k) := by
    intro v; rw [Frame.finish_at, ho]; simp only [Option.bind_some, put_act]; cases o.dst <;> rfl
  obtain ⟨e, w'', fr, hR, hsteps, hfn, hleave⟩ := hc (b.at ⟨tmps, []⟩ (.inRegion ops (i :: is) :: k) :: cs)
  have henter : step P (lone (b.at ⟨tmps, []⟩ (.inRegion ops (i :: is) :: k)) cs w) = .next (lone (Frame.enter P g args .normal) (b.at ⟨tmps, []⟩ (.inRegion ops (i :: is) :: k) :: cs) w') :=
    step_lone_go (by rw [hg]; simp [stepG.apply, hr, Frame.at])
  obtain ⟨v, rfl, hrun⟩ := h e w'' hR
  obtain ⟨v2, w3, fr2, r, st, x⟩ := hrun b cs hb hk
  refine ⟨v2, w3, fr2, r, Steps.head henter (Steps.trans hsteps (Steps.head ?_ st)), x⟩
  rw [← hfin]; exact step_leave_returned hleave

theorem Run.ret {fn : Func} {v : Value} (hf : P.funcs[f]? = some fn) (hr : (results fn tmps).run P w = .ok v w) (h : R v w) : Run P f (.code .ret :: k) tmps w R := by
  intro b cs hb hk
  exact ⟨v, w, _, h, .one step_ret, hb, rfl, rfl, hk, fn, by rw [← hf]; exact congrArg (P.funcs[·]?) hb, hr⟩
theorem Run.fin {fn : Func} {v : Value} (hf : P.funcs[f]? = some fn) (hr : (results fn tmps).run P w = .ok v w) (h : R v w) : Run P f [] tmps w R := by
  intro b cs hb hk
  exact ⟨v, w, _, h, .one step_end, hb, rfl, rfl, hk, fn, by rw [← hf]; exact congrArg (P.funcs[·]?) hb, hr⟩

theorem Run.calls {fn : Func} {c : Code} {args : Array Value} (hf : P.funcs[f]? = some fn) (hb : fn.body = some c)
    (h : Run P f [.code c] (args ++ Array.replicate (fn.ntmps - args.size) undef) w R) : Calls P f args w fun e w' => ∃ v, e = .returned v ∧ R v w' := by
  intro cs
  let b : Frame := { (default : Frame) with fn := f, kind := .normal }
  have henter : Frame.enter P f args .normal = b.at { tmps := args ++ Array.replicate (fn.ntmps - args.size) undef, defers := [] } [.code c] := by
    simp [Frame.enter, Frame.at, hf, hb, b]
  obtain ⟨v, w', fr, r, st, hfn, hl⟩ := h b cs rfl rfl
  rw [← henter] at st
  exact ⟨.returned v, w', fr, ⟨v, rfl, r⟩, st, hfn, hl⟩
end

/-! ## Sim -/

def Done (w0 : World) (F0 Z0 : Nat → Prop) (K : AV → List Res → Prop) (v : Value) (w' : World) : Prop := ∃ F Z av H, K av H ∧ Inv w0 w' F0 Z0 F Z H ∧ av.p Z w' v

/-- From here on, with the frame and what is owned, the call returns as the term says, if the term is 'some'. -/
def Sim (P : Program) (f : FuncId) (n : Nat) (todo : List Item) (fr : Fr) (H : List Res) {ρ R : Type} (x : Option ρ) (X : ρ → Option R) (K : R → AV → List Res → Prop) : Prop :=
  ∀ r, x.bind X = some r → ∀ (w0 : World) (F0 Z0 : Nat → Prop) (w : World) (F Z : Nat → Prop) (tmps : Array Value), tmps.size = n → Inv w0 w F0 Z0 F Z H → FrOk fr Z w tmps → Run P f todo tmps w (Done w0 F0 Z0 (K r))

inductive AllP (Z : Nat → Prop) (w : World) : List AV → List Value → Prop
  | nil : AllP Z w [] []
  | cons {a : AV} {v : Value} {as : List AV} {vs : List Value} : a.p Z w v → AllP Z w as vs → AllP Z w (a :: as) (v :: vs)

/-- What a call does: owned memory H goes in; K tells result and owned memory behind it. -/
def Spec (P : Program) (f : FuncId) (avs : List AV) (H : List Res) (K : AV → List Res → Prop) : Prop :=
  ∀ (w : World) (F Z : Nat → Prop) (vs : List Value), AllP Z w avs vs → Inv w w F Z F Z H → Calls P f vs.toArray w fun e w' => ∃ v, e = .returned v ∧ Done w F Z K v w'

/-- A call that owns nothing and writes nothing: its result is e r, if x is 'some r'. -/
def Pure (P : Program) (f : FuncId) (avs : List AV) {R : Type} (x : Option R) (e : R → AV) : Prop := ∀ r, x = some r → Spec P f avs [] fun a H => a = e r ∧ H = []

def frOf : Nat → List AV → Fr
  | _, [] => []
  | i, a :: as => (i, a) :: frOf (i + 1) as

theorem frOf_ok {Z : Nat → Prop} {w : World} {avs : List AV} {vs : List Value} (h : AllP Z w avs vs) : ∀ (i : Nat) (tmps : Array Value), (∀ j v, vs[j]? = some v → tmps.getD (i + j) undef = v) → FrOk (frOf i avs) Z w tmps := by
  induction h with
  | nil => intro i tmps _ t a ht; simp [frOf, look] at ht
  | @cons a v as vs ha _ ih =>
    intro i tmps hv t b ht
    simp only [frOf, look] at ht
    by_cases e : i = t
    · subst e; simp at ht; subst ht
      have := hv 0 v rfl; rw [Nat.add_zero] at this; rw [this]; exact ha
    · have e' : (i == t) = false := by simpa using e
      rw [e'] at ht; simp at ht
      exact ih (i + 1) tmps (fun j u hj => by have := hv (j + 1) u (by simpa using hj); rw [← this]; congr 1; omega) t b ht

theorem AllP.length {Z : Nat → Prop} {w : World} {avs : List AV} {vs : List Value} (h : AllP Z w avs vs) : avs.length = vs.length := by
  induction h with
  | nil => rfl
  | cons _ _ ih => simp [ih]

/-- A function's contract out of its code. -/
theorem spec_of {P : Program} {f : FuncId} {fn : Func} {c : Code} {avs : List AV} {H : List Res} {R : Type} {x : Option R} {K : R → AV → List Res → Prop} (hf : P.funcs[f]? = some fn) (hb : fn.body = some c) (hn : avs.length ≤ fn.ntmps)
    (h : Sim P f fn.ntmps [.code c] (frOf 0 avs) H x some K) : ∀ r, x = some r → Spec P f avs H (K r) := by
  intro r hr w F Z vs hvs hinv
  refine Run.calls hf hb ?_
  have hl := hvs.length
  refine h r (by simpa using hr) w F Z w F Z _ (by simp; omega) hinv (frOf_ok hvs 0 _ ?_)
  intro j v hj
  have hj' : j < vs.length := by
    rcases Nat.lt_or_ge j vs.length with h | h
    · exact h
    · simp [h] at hj
  simp only [Nat.zero_add, Array.getD_eq_getD_getElem?]
  rw [Array.getElem?_append_left (by simpa using hj')]
  simp [hj]

end S
end Go.Proofs.Ytpjhcllohagjoaa
