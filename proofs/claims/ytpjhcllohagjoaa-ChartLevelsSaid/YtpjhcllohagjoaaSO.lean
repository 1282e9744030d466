/-
  Sim: maps that the call owns: made, read, written. Own work; no claim stands here.
-/
import Derived.Test.YtpjhcllohagjoaaSN
import Derived.MapKept
import Derived.DeepKeys4
import Derived.StringKeys
namespace Go.Proofs.Ytpjhcllohagjoaa
namespace S
open Go.RowKit Go.WideMaps Go.MapKept
set_option linter.unusedVariables false
set_option linter.unusedSimpArgs false
set_option linter.unusedSectionVars false

/-- A type of keys. -/
structure MK (P : Program) (kt : TypeId) {κ : Type} (ek : κ → Value) : Prop where
  inj : ∀ a b, ek a = ek b → a = b
  check : ∀ (w : World) (em : Bool) (x : κ), (Instr.checkKey em 10000 kt (ek x)).run P w = .ok () w
  find : ∀ (w : World) (x : κ) (es : List MapEntry), (∀ e ∈ es, ∃ y, e.key = ek y) →
    ((Instr.findKey kt (ek x) es).run P w = .ok none w ∧ ∀ e ∈ es, e.key ≠ ek x) ∨ ∃ j e, (Instr.findKey kt (ek x) es).run P w = .ok (some (j, e.val)) w ∧ es[j]? = some e ∧ e.key = ek x
  stays : ∀ (w : World) (x : κ), (Instr.keyThatStays (ek x) (ek x)).run P w = .ok (ek x) w

section
variable {κ ν : Type} [DecidableEq κ]
def mget (es : List (κ × ν)) (k : κ) : Option ν := (es.find? fun p => decide (p.1 = k)).map (·.2)
def mgetD (z : ν) (es : List (κ × ν)) (k : κ) : ν := (mget es k).getD z
def mhas (es : List (κ × ν)) (k : κ) : Bool := (mget es k).isSome
def mput : List (κ × ν) → κ → ν → List (κ × ν)
  | [], k, v => [(k, v)]
  | p :: es, k, v => if p.1 = k then (k, v) :: es else p :: mput es k v

theorem mget_none {es : List (κ × ν)} {k : κ} (h : ∀ p ∈ es, p.1 ≠ k) : mget es k = none := by
  unfold mget
  rw [List.find?_eq_none.2 (fun p hp => by simpa using h p hp)]; rfl
theorem mget_at {es : List (κ × ν)} {k : κ} (hn : es.Pairwise fun p q => p.1 ≠ q.1) {j : Nat} {p : κ × ν} (hj : es[j]? = some p) (hp : p.1 = k) : mget es k = some p.2 := by
  unfold mget
  induction es generalizing j with
  | nil => simp at hj
  | cons q es ih =>
    rw [List.find?_cons]
    cases j with
    | zero => simp at hj; subst hj; simp [hp]
    | succ j =>
      have hq : q.1 ≠ k := fun e => (List.pairwise_cons.1 hn).1 p (List.mem_of_getElem? (by simpa using hj)) (e.trans hp.symm)
      rw [decide_eq_false hq]
      exact ih (List.pairwise_cons.1 hn).2 (by simpa using hj)
theorem mput_new {es : List (κ × ν)} {k : κ} {v : ν} (h : ∀ p ∈ es, p.1 ≠ k) : mput es k v = es ++ [(k, v)] := by
  induction es with
  | nil => rfl
  | cons p es ih => rw [mput, if_neg (h p (.head _)), ih fun q hq => h q (.tail _ hq)]; rfl
theorem mput_at {es : List (κ × ν)} {k : κ} {v : ν} (hn : es.Pairwise fun p q => p.1 ≠ q.1) {j : Nat} {p : κ × ν} (hj : es[j]? = some p) (hp : p.1 = k) : mput es k v = es.set j (k, v) := by
  induction es generalizing j with
  | nil => simp at hj
  | cons q es ih =>
    cases j with
    | zero => simp at hj; subst hj; rw [mput, if_pos hp]; rfl
    | succ j =>
      have hq : q.1 ≠ k := fun e => (List.pairwise_cons.1 hn).1 p (List.mem_of_getElem? (by simpa using hj)) (e.trans hp.symm)
      rw [mput, if_neg hq, ih (List.pairwise_cons.1 hn).2 (by simpa using hj)]; rfl
end

/-- What stands in a map's block. -/
def MapAt {κ ν : Type} (ek : κ → Value) (ev : ν → Value) (w : World) (b : Nat) (es : List (κ × ν)) : Prop :=
  ∃ ms clock, w.heap[b]? = some (.map ms clock) ∧ Stamped ms clock ∧ ms.toList.map (fun e => (e.key, e.val)) = es.map fun p => (ek p.1, ev p.2)

/-- A map of the call's own. -/
def Res.mp {κ ν : Type} (ek : κ → Value) (ev : ν → Value) (b : Nat) (es : List (κ × ν)) : Res :=
  ⟨fun Z w F => F b ∧ MapAt ek ev w b es, fun hz hk h => by
    obtain ⟨hb, ms, clock, h1, h2⟩ := h
    exact ⟨hb, ms, clock, (hk b (.inr hb)).trans h1, h2⟩⟩

section
variable {P : Program} {f : FuncId} {n : Nat} {ops : Array Oper} {l : List Oper} {k : List Item} {fr : Fr} {H : List Res} {ρ R : Type} {x : Option ρ} {X : ρ → Option R} {K : R → AV → List Res → Prop} {ty t kt et : TypeId} {d : Nat} {pos : String} {aft : Array Edge}
variable {κ ν : Type} [DecidableEq κ] {ek : κ → Value} {ev : ν → Value}

theorem pairs_get {ms : Array MapEntry} {es : List (κ × ν)} (h : ms.toList.map (fun e => (e.key, e.val)) = es.map fun p => (ek p.1, ev p.2)) {j : Nat} {e : MapEntry} (hj : ms.toList[j]? = some e) : ∃ p, es[j]? = some p ∧ e.key = ek p.1 ∧ e.val = ev p.2 := by
  have := congrArg (·[j]?) h
  simp only [List.getElem?_map, hj, Option.map_some] at this
  cases hp : es[j]? with
  | none => rw [hp] at this; cases this
  | some p =>
    rw [hp] at this
    simp only [Option.map_some, Option.some.injEq, Prod.mk.injEq] at this
    exact ⟨p, rfl, this.1, this.2⟩
theorem pairs_mem {ms : Array MapEntry} {es : List (κ × ν)} (h : ms.toList.map (fun e => (e.key, e.val)) = es.map fun p => (ek p.1, ev p.2)) {p : κ × ν} (hp : p ∈ es) : ∃ e ∈ ms.toList, e.key = ek p.1 ∧ e.val = ev p.2 := by
  have : (ek p.1, ev p.2) ∈ es.map fun p => (ek p.1, ev p.2) := List.mem_map.2 ⟨p, hp, rfl⟩
  rw [← h] at this
  obtain ⟨e, he, hq⟩ := List.mem_map.1 this
  simp only [Prod.mk.injEq] at hq
  exact ⟨e, he, hq.1, hq.2⟩
theorem pairs_ent {ms : Array MapEntry} {es : List (κ × ν)} (h : ms.toList.map (fun e => (e.key, e.val)) = es.map fun p => (ek p.1, ev p.2)) {e : MapEntry} (he : e ∈ ms.toList) : ∃ p ∈ es, e.key = ek p.1 ∧ e.val = ev p.2 := by
  obtain ⟨j, hj⟩ := List.getElem?_of_mem he
  obtain ⟨p, h1, h2, h3⟩ := pairs_get h hj
  exact ⟨p, List.mem_of_getElem? h1, h2, h3⟩
theorem pairs_apart (M : MK P kt ek) {ms : Array MapEntry} {clock : Nat} {es : List (κ × ν)} (hs : Stamped ms clock) (h : ms.toList.map (fun e => (e.key, e.val)) = es.map fun p => (ek p.1, ev p.2)) : es.Pairwise fun p q => p.1 ≠ q.1 := by
  have h1 := ((stamped_iff ms clock).1 hs).2.2
  have h2 : (ms.toList.map (fun e => (e.key, e.val))).Pairwise fun a b => a.1 ≠ b.1 := List.pairwise_map.2 h1
  rw [h, List.pairwise_map] at h2
  exact h2.imp fun hne e => hne (congrArg ek e)

/-- What a look into the map finds. -/
theorem find_is (M : MK P kt ek) {ms : Array MapEntry} {clock : Nat} {es : List (κ × ν)} (hs : Stamped ms clock) (h : ms.toList.map (fun e => (e.key, e.val)) = es.map fun p => (ek p.1, ev p.2)) (y : κ) (w : World) :
    ((Instr.findKey kt (ek y) ms.toList).run P w = .ok none w ∧ (∀ p ∈ es, p.1 ≠ y) ∧ ∀ e ∈ ms.toList, e.key ≠ ek y) ∨
    ∃ j e p, (Instr.findKey kt (ek y) ms.toList).run P w = .ok (some (j, e.val)) w ∧ ms.toList[j]? = some e ∧ es[j]? = some p ∧ p.1 = y ∧ e.key = ek y ∧ e.val = ev p.2 := by
  rcases M.find w y ms.toList (fun e he => by
    obtain ⟨p, _, e1, _⟩ := pairs_ent h he
    exact ⟨p.1, e1⟩) with ⟨h1, h2⟩ | ⟨j, e, h1, h2, h3⟩
  · refine .inl ⟨h1, fun p hp e => ?_, h2⟩
    obtain ⟨q, hq, e1, _⟩ := pairs_mem h hp
    exact h2 q hq (e1.trans (congrArg ek e))
  · obtain ⟨p, g1, g2, g3⟩ := pairs_get h h2
    exact .inr ⟨j, e, p, h1, h2, g1, M.inj _ _ (g2.symm.trans h3), h3, g3⟩

theorem sMakeMap (hdn : Nat.blt d n = true) (h : ∀ b, SimL P f n ops l k ((d, .lit (.map (some b))) :: fr) (.mp ek ev b [] :: H) x X K) : SimL P f n ops (⟨some d, .makeMap t none, ty, pos, aft, none⟩ :: l) k fr H x X K :=
  sEff (I := Nat) (fun o ho hty w0 F0 Z0 w F Z ρ hi hf => ⟨.map (some w.heap.size), w.alloc (.map #[] 0), w.heap.size, _, Z, by simp [execOp, ho, run_makeMap, Sem.run_bind], hi.push _ (.mp ek ev w.heap.size []) ⟨rfl, #[], 0, heap_alloc_new w _, stamped_empty 0, rfl⟩, fun _ x => x, (Step.alloc w _ _).keep' hi, rfl⟩) hdn h

theorem look_run (M : MK P kt ek) (ht : P.underlying t = some (.map kt et)) {z : ν} (hz : ∀ w, (zeroValue et).run P w = .ok (ev z) w) {b : Nat} {es : List (κ × ν)} {w : World} (h : MapAt ek ev w b es) (y : κ) (c : Bool) :
    (Instr.lookup t (.map (some b)) (ek y) c).run P w = .ok (if c then .tuple #[ev (mgetD z es y), .bool (mhas es y)] else ev (mgetD z es y)) w := by
  obtain ⟨ms, clock, hh, hs, hp⟩ := h
  have hn := pairs_apart M hs hp
  simp only [Instr.lookup, Sem.run_bind, run_underlying ht, Result.andThen_ok, Go.MapKept.run_getObj_map hh, Sem.run_pure, M.check w _ y]
  rcases find_is M hs hp y w with ⟨h1, h2, _⟩ | ⟨j, e, p, h1, h2, h3, h4, _, h5⟩
  · simp only [h1, hz, Result.andThen_ok, Sem.run_bind, Sem.run_pure, mgetD, mhas, mget_none h2]
    cases c <;> rfl
  · simp only [h1, Result.andThen_ok, Sem.run_pure, mgetD, mhas, mget_at hn h3 h4, h5]
    cases c <;> rfl

theorem dLook {y m : Operand} {b j : Nat} {es : List (κ × ν)} {a : κ} {z : ν} (M : MK P kt ek) (ht : P.underlying t = some (.map kt et)) (hz : ∀ w, (zeroValue et).run P w = .ok (ev z) w) (hm : arg fr m = some (.lit (.map (some b)))) (hj : H[j]? = some (.mp ek ev b es)) {av : AV} (hy : arg fr y = some av) (ha : ∀ Z w v, av.p Z w v → v = ek a) :
    D P n H (.lookup t m y false) ty fr (.lit (ev (mgetD z es a))) :=
  .of fun q ho hty w Z F ρ hH hf => by
    have e1 : ρ m = _ := hf (by simp [Op.operands]) hm
    have e2 : ρ y = _ := ha _ _ _ (hf (by simp [Op.operands]) hy)
    obtain ⟨F1, ⟨hb, hma⟩, _⟩ := hH.at hj
    exact ⟨_, (by simp only [execOp, ho, e1, e2, look_run M ht hz hma, Sem.run_bind, Result.andThen_ok, Sem.run_pure]; rfl), rfl⟩
theorem dLookOk {y m : Operand} {b j : Nat} {es : List (κ × ν)} {a : κ} {z : ν} (M : MK P kt ek) (ht : P.underlying t = some (.map kt et)) (hz : ∀ w, (zeroValue et).run P w = .ok (ev z) w) (hm : arg fr m = some (.lit (.map (some b)))) (hj : H[j]? = some (.mp ek ev b es)) {av : AV} (hy : arg fr y = some av) (ha : ∀ Z w v, av.p Z w v → v = ek a) :
    D P n H (.lookup t m y true) ty fr (.tup [.lit (ev (mgetD z es a)), Ab (mhas es a)]) :=
  .of fun q ho hty w Z F ρ hH hf => by
    have e1 : ρ m = _ := hf (by simp [Op.operands]) hm
    have e2 : ρ y = _ := ha _ _ _ (hf (by simp [Op.operands]) hy)
    obtain ⟨F1, ⟨hb, hma⟩, _⟩ := hH.at hj
    exact ⟨_, (by simp only [execOp, ho, e1, e2, look_run M ht hz hma, Sem.run_bind, Result.andThen_ok, Sem.run_pure]; rfl), [_, _], rfl, .cons rfl (.cons rfl .nil)⟩

theorem Step.setObj (w : World) (b : Nat) (o : Obj) (F1 : Nat → Prop) (h : F1 b) : Step w { w with heap := w.heap.setIfInBounds b o } F1 :=
  ⟨rfl, rfl, rfl, Nat.le_refl _, by simp, fun c _ hf => by
    have : b ≠ c := fun e => hf (e ▸ h)
    simp [this]⟩

theorem put_run (M : MK P kt ek) (ht : P.underlying t = some (.map kt et)) {b : Nat} {es : List (κ × ν)} {w : World} (h : MapAt ek ev w b es) (y : κ) (v : ν) :
    ∃ o, (Instr.mapUpdate t (.map (some b)) (ek y) (ev v)).run P w = .ok () { w with heap := w.heap.setIfInBounds b o } ∧ MapAt ek ev { w with heap := w.heap.setIfInBounds b o } b (mput es y v) := by
  obtain ⟨ms, clock, hh, hs, hp⟩ := h
  have hn := pairs_apart M hs hp
  rcases find_is M hs hp y w with ⟨h1, h2, h3⟩ | ⟨j, e, p, h1, h2, h3, h4, h6, h5⟩
  · refine ⟨.map (ms.push { key := ek y, val := ev v, born := clock }) (clock + 1), ?_, _, _, (heap_set hh).1, stamped_push hs h3, ?_⟩
    · simp only [Instr.mapUpdate, Sem.run_bind, run_underlying ht, Go.MapKept.run_getObj_map hh, M.check w _ y, h1, Go.MapKept.run_setObj_map _ hh, Result.andThen_ok]
    · rw [mput_new h2]; simp [hp]
  · have hj : ms[j]? = some e := by simpa using h2
    refine ⟨.map (ms.modify j fun e => { e with key := ek y, val := ev v }) clock, ?_, _, _, (heap_set hh).1, stamped_modify hs _ _ (fun _ _ => rfl) (fun e' _ he' => by rw [hj] at he'; cases he'; exact h6.symm), ?_⟩
    · simp only [Instr.mapUpdate, Sem.run_bind, run_underlying ht, Go.MapKept.run_getObj_map hh, M.check w _ y, h1, hj, Option.map_some, Option.getD_some, h6, M.stays w y, Go.MapKept.run_setObj_map _ hh, Result.andThen_ok]
    · rw [mput_at hn h3 h4]
      apply List.ext_getElem?
      intro i
      simp only [Array.toList_modify, List.getElem?_map, List.getElem?_modify, List.getElem?_set]
      have hi := congrArg (·[i]?) hp
      simp only [List.getElem?_map] at hi
      by_cases hij : j = i
      · subst hij
        have hl : j < es.length := (List.getElem?_eq_some_iff.1 h3).1
        simp [h2, hl]
      · simp only [hij, if_false]
        simpa using hi

theorem sPut {y m u : Operand} {b j : Nat} {es : List (κ × ν)} {a : κ} {v : ν} (M : MK P kt ek) (ht : P.underlying t = some (.map kt et)) (hm : arg fr m = some (.lit (.map (some b)))) (hj : H[j]? = some (.mp ek ev b es)) {av : AV} (hy : arg fr y = some av) (ha : ∀ Z w v, av.p Z w v → v = ek a) (hu : arg fr u = some (.lit (ev v)))
    (h : SimL P f n ops l k fr (H.set j (.mp ek ev b (mput es a v))) x X K) : SimL P f n ops (⟨none, .mapUpdate t m y u, ty, pos, aft, none⟩ :: l) k fr H x X K := by
  refine sEff0 (fun o ho w0 F0 Z0 w F Z ρ hi hf => ?_) h
  have e1 : ρ m = _ := hf (by simp [Op.operands]) hm
  have e2 : ρ y = _ := ha _ _ _ (hf (by simp [Op.operands]) hy)
  have e3 : ρ u = _ := hf (by simp [Op.operands]) hu
  obtain ⟨F1, ⟨hb, hma⟩, _⟩ := hi.res.at hj
  obtain ⟨ob, h1, h2⟩ := put_run M ht hma a v
  obtain ⟨F', hi', hk⟩ := hi.turn (w' := { w with heap := w.heap.setIfInBounds b ob }) (r' := .mp ek ev b (mput es a v)) hj fun F1 h3 hz1 => ⟨F1, Step.setObj w b ob F1 h3.1, ⟨h3.1, h2⟩, fun _ x => .inl x⟩
  exact ⟨_, F', Z, by simp only [execOp, ho, e1, e2, e3, h1, Sem.run_bind, Result.andThen_ok, Sem.run_pure], hi', fun _ x => x, hk⟩
end

theorem mkStr {P : Program} {kt : TypeId} (hk : P.underlying kt = some .string) : MK P kt (fun s : ByteArray => Value.string s) :=
  ⟨fun a b h => (by injection h), fun w em x => run_checkKey (k := Value.string x) hk trivial em _, fun w x es h => by
    rcases findNow_spec (d := .string) (k := .string x) trivial es 0 (fun e he => by obtain ⟨y, hy⟩ := h e he; rw [hy]; trivial) with ⟨h1, h2⟩ | ⟨j, e, h1, h2, h3⟩
    · exact .inl ⟨run_findKey hk h1, h2⟩
    · exact .inr ⟨j, e, (by rw [Nat.zero_add] at h1; exact run_findKey hk h1), h2, h3⟩, fun w x => run_keyThatStays (d := .string) (k := Value.string x) trivial⟩
theorem mkLaw {P : Program} {kt : TypeId} {κ : Type} {ek : κ → Value} (L : KeyLaw P kt) (hk : ∀ x, (_root_.Go.keyOf P kt (ek x)).isSome = true) (hi : ∀ a b, ek a = ek b → a = b) : MK P kt ek :=
  have hk' : ∀ x, ∃ l, _root_.Go.keyOf P kt (ek x) = some l := fun x => Option.isSome_iff_exists.1 (hk x)
  ⟨hi, fun w em x => (hk' x).elim fun _ h => L.check w em h, fun w x es h => (hk' x).elim fun _ hx => L.find w hx es (fun e he => by obtain ⟨y, hy⟩ := h e he; rw [hy]; exact hk' y), fun w x => (hk' x).elim fun _ h => L.stays w h⟩
theorem mkInt {P : Program} {kt : TypeId} {q : IntKind} (hk : P.underlying kt = some (.int q)) : MK P kt (fun x : Int => Value.int q x) :=
  ⟨fun a b h => (by injection h), fun w em x => run_checkKey (k := Value.int q x) hk rfl em _, fun w x es h => by
    rcases findNow_spec (d := .int q) (k := .int q x) rfl es 0 (fun e he => by obtain ⟨y, hy⟩ := h e he; rw [hy]; exact rfl) with ⟨h1, h2⟩ | ⟨j, e, h1, h2, h3⟩
    · exact .inl ⟨run_findKey hk h1, h2⟩
    · exact .inr ⟨j, e, (by rw [Nat.zero_add] at h1; exact run_findKey hk h1), h2, h3⟩, fun w x => run_keyThatStays (d := .int q) (k := Value.int q x) rfl⟩
theorem allP_lits {Z : Nat → Prop} {w : World} {us : List Value} : ∀ {vs : List Value}, AllP Z w (us.map AV.lit) vs → vs = us := by
  induction us with
  | nil => intro vs h; cases h; rfl
  | cons u us ih =>
    intro vs h
    cases h with
    | cons h1 h2 => rw [ih h2, show _ = u from h1]
theorem agg_lit {Z : Nat → Prop} {w : World} {v : Value} {us : List Value} (h : (AV.agg (us.map AV.lit)).p Z w v) : v = .agg us.toArray := by
  obtain ⟨vs, rfl, h⟩ := h
  rw [allP_lits h]
/-- One by one: what a struct's fields ask of it as a key. -/
def Cks (P : Program) (w : World) (em : Bool) (m : Nat) (cs : Array Value) : List Field → Prop
  | [] => True
  | f :: fs => (f.name ≠ "_" → ∃ a, (part f.type cs f.offset).run P w = .ok a w ∧ (Instr.checkKey em m f.type a).run P w = .ok () w) ∧ Cks P w em m cs fs
theorem run_check_st {P : Program} {w : World} {em : Bool} {m : Nat} {t : TypeId} {fs : Array Field} {cs : Array Value} (hu : P.underlying t = some (.struct fs)) (h : Cks P w em m cs fs.toList) : (Instr.checkKey em (m + 1) t (.agg cs)).run P w = .ok () w := by
  rw [Instr.checkKey]
  simp only [Sem.run_bind, run_underlying hu, Result.andThen_ok]
  rw [← Array.forIn_toList]
  generalize fs.toList = L at h
  induction L with
  | nil => simp
  | cons f L ih =>
    obtain ⟨h1, h2⟩ := h
    by_cases hn : f.name = "_"
    · simp only [List.forIn_cons, Sem.run_bind, hn, ne_eq, not_true_eq_false, if_false, Result.andThen_ok, Sem.run_pure]
      exact ih h2
    · obtain ⟨a, p1, p2⟩ := h1 hn
      simp only [List.forIn_cons, Sem.run_bind, hn, ne_eq, not_false_eq_true, if_true, Result.andThen_ok, p1, p2, Sem.run_pure]
      exact ih h2
theorem asking {P : Program} {kt : TypeId} {κ : Type} [DecidableEq κ] {ek : κ → Value} (he : ∀ w x y, (Op.equalIn 10000 kt (ek x) (ek y)).run P w = .ok (decide (x = y)) w) (hi : ∀ a b, ek a = ek b → a = b) (w : World) (x : κ) : ∀ (es : List MapEntry) (i : Nat), (∀ e ∈ es, ∃ y, e.key = ek y) →
    ((Instr.findAsking kt (ek x) es i).run P w = .ok none w ∧ ∀ e ∈ es, e.key ≠ ek x) ∨ ∃ j e, (Instr.findAsking kt (ek x) es i).run P w = .ok (some (i + j, e.val)) w ∧ es[j]? = some e ∧ e.key = ek x
  | [], i, _ => .inl ⟨by simp [Instr.findAsking], by simp⟩
  | e :: es, i, hall => by
    obtain ⟨y, hy⟩ := hall e (by simp)
    have hr : (Op.equal kt (ek x) e.key).run P w = .ok (decide (x = y)) w := by rw [hy]; exact he w x y
    by_cases hxy : x = y
    · rw [decide_eq_true hxy] at hr
      exact .inr ⟨0, e, by simp [Instr.findAsking, hr], rfl, by rw [hy, hxy]⟩
    · rw [decide_eq_false hxy] at hr
      rcases asking he hi w x es (i + 1) (fun z hz => hall z (by simp [hz])) with ⟨h1, h2⟩ | ⟨j, e', h1, h2, h3⟩
      · refine .inl ⟨by simp [Instr.findAsking, hr, h1], fun z hz => ?_⟩
        rcases List.mem_cons.1 hz with rfl | hz
        · exact fun q => hxy (hi _ _ (q.symm.trans hy))
        · exact h2 z hz
      · exact .inr ⟨j + 1, e', by simp [Instr.findAsking, hr, h1, Nat.add_assoc, Nat.add_comm 1 j], by simpa using h2, h3⟩
theorem sameBits_lit : ∀ {n : Nat} {vs : List Value}, (∀ v ∈ vs, Instr.sameBits n v v = true) → Instr.sameBits (n + 1) (.agg vs.toArray) (.agg vs.toArray) = true := by
  intro n vs h
  simp only [Instr.sameBits, beq_self_eq_true, Bool.true_and, List.all_eq_true]
  rintro ⟨a, b⟩ hab
  have : ∀ {us : List Value}, (∀ v ∈ us, Instr.sameBits n v v = true) → (a, b) ∈ us.zip us → Instr.sameBits n a b = true := by
    intro us
    induction us with
    | nil => intro _ h; simp at h
    | cons u us ih =>
      intro hu hm
      rw [List.zip_cons_cons] at hm
      rcases List.mem_cons.1 hm with e | hm
      · cases e; exact hu _ (List.mem_cons_self ..)
      · exact ih (fun v hv => hu v (by simp [hv])) hm
  exact this h (by simpa using hab)
theorem mkSt {P : Program} {kt : TypeId} {κ : Type} [DecidableEq κ] {lits : κ → List Value} (hw : (match P.underlying kt with | some (.array _ _) | some (.struct _) => true | _ => false) = true) (hi : ∀ a b, Value.agg (lits a).toArray = .agg (lits b).toArray → a = b)
    (hc : ∀ (w : World) (em : Bool) (x : κ), (Instr.checkKey em 10000 kt (.agg (lits x).toArray)).run P w = .ok () w) (he : ∀ w x y, (Op.equalIn 10000 kt (.agg (lits x).toArray) (.agg (lits y).toArray)).run P w = .ok (decide (x = y)) w)
    (hb : ∀ x, ∀ v ∈ lits x, Instr.sameBits 9999 v v = true) : MK P kt (fun x => Value.agg (lits x).toArray) :=
  ⟨hi, hc, fun w x es h => by
    rw [run_findKey_eq w hw]
    rcases asking he hi w x es 0 h with h | ⟨j, e, h1, h2⟩
    · exact .inl h
    · exact .inr ⟨j, e, by rw [Nat.zero_add] at h1; exact h1, h2⟩, fun w x => by
    simp [Instr.keyThatStays, sameBits_lit (hb x)]⟩
end S
end Go.Proofs.Ytpjhcllohagjoaa
