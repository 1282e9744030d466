/-
  Sim, the eighth text: codecs of plain types; strings; what the printed functions still need. Own work; no claim stands here.
-/
import Derived.Test.YtpjhcllohagjoaaSG
import Derived.Laws.StructEq
namespace Go.Proofs.Ytpjhcllohagjoaa
namespace S
open Go.RowKit
set_option linter.unusedVariables false
set_option linter.unusedSimpArgs false

def cI (k : IntKind) : Co Int := ⟨fun x => [Ai k x], 1, by decide, fun _ => rfl, fun _ => ⟨oLit rfl, trivial⟩⟩
def cB : Co Bool := ⟨fun x => [Ab x], 1, by decide, fun _ => rfl, fun _ => ⟨oLit rfl, trivial⟩⟩
def cS : Co ByteArray := ⟨fun x => [.lit (.string x)], 1, by decide, fun _ => rfl, fun _ => ⟨oLit rfl, trivial⟩⟩
def cL {T : Type} (c : Co T) : Co (List T) := ⟨fun x => [.fsl c x], 1, by decide, fun _ => rfl, fun _ => ⟨oFsl, trivial⟩⟩
theorem oSv {v : Value} : (AV.sv v).One := fun _ _ _ ⟨e, _, _, _, h⟩ => by rw [e, h]; rfl

/-- A piece of a string. -/
def sls (s : ByteArray) (a b : Int) : ByteArray := s.extract a.toNat b.toNat

section
variable {P : Program} {f : FuncId} {n : Nat} {ops : Array Oper} {l : List Oper} {k : List Item} {fr : Fr} {H : List Res} {ρ R : Type} {x : Option ρ} {X : ρ → Option R} {K : R → AV → List Res → Prop} {ty t t' e : TypeId} {d : Nat} {pos : String} {aft : Array Edge}

theorem spec_of' {fn : Func} {c : Code} {avs : List AV} {y : Option R} {en : R → AV} {m : Nat} (hf : P.funcs[f]? = some fn) (hb : fn.body = some c) (hm : fn.ntmps = m) (hn : avs.length ≤ m)
    (h : Sim P f m [.code c] (frOf 0 avs) [] y some fun r a H => a = en r ∧ H = []) : Pure P f avs y en := by
  subst hm
  exact spec_of hf hb hn h

/-- A call whose result is a slice (among others) of the caller's own. -/
def Fresh1 (P : Program) (g : FuncId) (avs : List AV) {Q : Type} (y : Option Q) (A : Q → Value → AV) (B : Q → Value → List Res) : Prop := ∀ r, y = some r → Spec P g avs [] fun a H => ∃ v, a = A r v ∧ H = B r v
theorem fresh_of {fn : Func} {c : Code} {avs : List AV} {y : Option R} {A : R → Value → AV} {B : R → Value → List Res} {m : Nat} (hf : P.funcs[f]? = some fn) (hb : fn.body = some c) (hm : fn.ntmps = m) (hn : avs.length ≤ m)
    (h : Sim P f m [.code c] (frOf 0 avs) [] y some fun r a H => ∃ v, a = A r v ∧ H = B r v) : Fresh1 P f avs y A B := by
  subst hm
  exact spec_of hf hb hn h

theorem sCallF1 {g : FuncId} {args : Array Operand} {ts : Array TypeId} {avs : List AV} {Q : Type} {y : Option Q} {A : Q → Value → AV} {B : Q → Value → List Res} {r : Q} (hg : Ent P g) (hp : Fresh1 P g avs y A B) (hy : y = some r) (ha : ArgsS fr args.toList avs) (hdn : Nat.blt d n = true)
    (h : ∀ v, SimL P f n ops l k ((d, A r v) :: fr) (B r v ++ H) x X K) : SimL P f n ops (⟨some d, .call ⟨.value (.func g), args, ts⟩, ty, pos, aft, none⟩ :: l) k fr H x X K :=
  sCallF (A := fun q vs => A q (vs.headD undef)) (B := fun q vs => B q (vs.headD undef)) hg (fun r hr => by
    intro w F Z vs h1 h2
    refine (hp r hr w F Z vs h1 h2).mono fun e w' ⟨v, he, F', Z', a, H', ⟨u, ha, hH⟩, rest⟩ => ⟨v, he, F', Z', a, H', ⟨[u], ha, hH⟩, rest⟩) hy ha hdn fun vs => h _

theorem AllP.imp' {Z : Nat → Prop} {w : World} {as bs : List AV} {vs : List Value} (h : AllP Z w as vs) {i : Nat} {a b : AV} (hi : as[i]? = some a) (hab : ∀ u, a.p Z w u → b.p Z w u) (hb : as.set i b = bs) : AllP Z w bs vs := hb ▸ h.imp hi hab

/-- What comes back owned may be taken as memory that is read alone. -/
theorem pure_of_fresh {T Q : Type} {g : FuncId} {avs : List AV} {y : Option Q} {A : Q → Value → AV} {B : Q → Value → List Res} {en : Q → AV} {t : TypeId} {c : Co T} (xs : Q → List T) (h : Fresh1 P g avs y A B) (hB : ∀ r v, B r v = [.own t c v (xs r)]) (hA : ∀ r v Z w u, (A r v).p Z w u → (AV.fsl c (xs r)).p Z w v → (en r).p Z w u) : Pure P g avs y en := by
  intro r hr w F Z vs h1 h2
  refine (h r hr w F Z vs h1 h2).mono fun e w' ⟨v, he, F', Z', a, H', ⟨u, ha, hH⟩, hinv, hp⟩ => ?_
  subst ha hH
  rw [hB] at hinv
  obtain ⟨G1, h3, hG, hset⟩ := HAll.give (r' := .fz c u (xs r)) (j := 0) rfl hinv.res
  have hzz : ∀ b, Z' b → Z' b ∨ G1 b := fun _ x => .inl x
  refine ⟨v, he, fun _ => False, fun b => Z' b ∨ G1 b, _, [], ⟨rfl, rfl⟩, ?_, hA r u _ _ v (AV.st _ hzz (Keep.refl _ _) hp) (own_fsl h3)⟩
  exact hinv.step (F1 := fun _ => False) (Step.refl _ _) (fun _ x => x.elim) hzz (fun b x => x.imp id fun y => .inl (hG b y)) (fun b x => x.elim) trivial

/-- A box whose cell is the nil slice, to be read. -/
theorem sNFB {T : Type} {todo : List Item} (b i : Nat) (c : Co T) {as : List AV} {g : Nat} (hb : H[b]? = some (.box g as)) (hu : as[i]? = some (.lit (.slice none 0 0))) (h : Sim P f n todo fr (H.set b (.box g (as.set i (.fsl c [])))) x X K) : Sim P f n todo fr H x X K := by
  intro r hr w0 F0 Z0 w F Z tmps hn hi hf
  obtain ⟨F', hi', _⟩ := hi.turn (w' := w) (r' := .box g (as.set i (.fsl c []))) hb fun G1 ⟨hg, vs, t', e1, e2⟩ _ => ⟨G1, Step.refl _ _, ⟨hg, vs, t', e1, e2.imp hu fun u hu => by
    have : u = .slice none 0 0 := hu
    rw [this]; exact nil_fsl c _ _⟩, fun _ x => .inl x⟩
  exact h r hr w0 F0 Z0 w F' Z tmps hn hi' hf

/-! ### Slices that are written out -/
inductive Elems (fr : Fr) {T : Type} (c : Co T) : List (Nat × Operand) → List T → Prop
  | nil : Elems fr c [] []
  | c {i : Nat} {u : Operand} {a : AV} {y : T} {ps : List (Nat × Operand)} {ys : List T} : arg fr u = some a → CellsOf a (c.e y) → Elems fr c ps ys → Elems fr c ((i, u) :: ps) (y :: ys)

theorem elems_rows {T : Type} {c : Co T} {ps : List (Nat × Operand)} {ys : List T} (h : Elems fr c ps ys) {Z : Nat → Prop} {w : World} {ρ : Operand → Value} (hf : ∀ {u : Operand} {a : AV}, u ∈ ps.map (·.2) → arg fr u = some a → a.p Z w (ρ u)) : Rows c Z w ys ((ps.map fun p => (ρ p.2).cells.toList).flatten) ∧ ((ps.map fun p => (ρ p.2).cells.toList).flatten).length = ys.length * c.sz ∧ ∀ p ∈ ps, (ρ p.2).cells.size = c.sz := by
  induction h with
  | nil => exact ⟨by intro i x hx; simp at hx, by simp, by simp⟩
  | @c i u a y ps ys hu hc _ ih =>
    obtain ⟨h1, h2, h3⟩ := ih fun hm hx => hf (by simp at hm ⊢; exact .inr hm) hx
    have hcs := hc _ _ _ (hf (by simp) hu)
    have hl : (ρ u).cells.toList.length = c.sz := by rw [← hcs.length, c.len]
    refine ⟨fun q z hz => ?_, by simp only [List.map_cons, List.flatten_cons, List.length_append, hl, h2, List.length_cons, Nat.succ_mul]; omega, fun p hp => ?_⟩
    · cases q with
      | zero =>
        simp at hz; subst hz
        refine ⟨_, hcs, fun q u hq => ?_⟩
        simp only [List.map_cons, List.flatten_cons, Nat.zero_mul, Nat.zero_add]
        rw [List.getElem?_append_left]
        · exact hq
        · rcases Nat.lt_or_ge q (ρ _).cells.toList.length with h | h
          · exact h
          · rw [List.getElem?_eq_none_iff.2 h] at hq; cases hq
      | succ q =>
        obtain ⟨vs, g1, g2⟩ := h1 q z (by simpa using hz)
        refine ⟨vs, g1, fun r u hr => ?_⟩
        simp only [List.map_cons, List.flatten_cons]
        rw [List.getElem?_append_right (by rw [hl, Nat.succ_mul]; omega), hl, ← g2 r u hr]
        congr 1; rw [Nat.succ_mul]; omega
    · rcases List.mem_cons.1 hp with rfl | hp
      · simpa using hl
      · exact h3 p hp

theorem fill_rows (sz : Nat) : ∀ (ps : List (Nat × Value)) (i : Nat) (pre : List Value) (post : List Value), ps.map (·.1) = List.range' i ps.length → pre.length = i * sz → post.length = ps.length * sz → (∀ p ∈ ps, p.2.cells.size = sz) →
    Instr.fill (fun q => some (q * sz, sz)) (pre ++ post).toArray ps = some (pre ++ (ps.map fun p => p.2.cells.toList).flatten).toArray := by
  intro ps
  induction ps with
  | nil => intro i pre post h1 h2 h3 h4; simp at h3; subst h3; simp [Instr.fill]
  | cons p ps ih =>
    intro i pre post h1 h2 h3 h4
    obtain ⟨q, v⟩ := p
    simp only [List.map_cons, List.length_cons, List.range'_succ, List.cons.injEq] at h1
    obtain ⟨rfl, h1⟩ := h1
    have hv : v.cells.size = sz := h4 (q, v) (by simp)
    have hvl : v.cells.toList.length = sz := by simpa using hv
    simp only [List.length_cons, Nat.succ_mul] at h3
    have hfd := foldl_splice (pre ++ post) v.cells.toList (q * sz) (by rw [List.length_append]; omega)
    simp only [Array.toArray_toList] at hfd
    have e1 : (pre ++ post).take (q * sz) = pre := by rw [← h2]; simp
    have e2 : (pre ++ post).drop (q * sz + v.cells.toList.length) = post.drop sz := by
      rw [hvl, ← h2, List.drop_append]; simp
    rw [e1, e2] at hfd
    have hge : ¬ (q * sz + sz > (pre ++ post).length) := by rw [List.length_append]; omega
    simp only [Instr.fill, hv, ne_eq, not_true_eq_false, List.size_toArray, hge, or_self, if_false]
    refine (congrArg (fun z => Instr.fill _ z ps) hfd).trans ?_
    rw [ih (q + 1) (pre ++ v.cells.toList) (post.drop sz) h1 (by rw [List.length_append, hvl, h2, Nat.succ_mul]) (by rw [List.length_drop]; omega) (fun p hp => h4 p (by simp [hp]))]
    simp

/-- What a written-out slice comes to. -/
theorem bs_run {T : Type} {c : Co T} {ps : Array (Nat × Operand)} {xs : List T} {z : Value} {m bytes : Nat} (ht : P.underlying t = some (.slice e)) (hs : SizeIs P e c.sz) (hinfo : Info P e z c.sz bytes) (hp : Elems fr c ps.toList xs) (hi : (ps.toList.map (·.1) == List.range' 0 m && Nat.ble (m * c.sz) 16777216) = true)
    {o : Oper} (ho : o.op = .buildSlice t m ps) {w : World} {Z : Nat → Prop} {ρ : Operand → Value} (hf : Rho (.buildSlice t m ps) fr Z w ρ) : ∃ cs : List Value, (execOp ρ o).run P w = .ok (.value (.slice (some ⟨w.heap.size, 0, none⟩) m m)) (w.alloc (.cells cs.toArray e)) ∧ xs.length = m ∧ cs.length = m * c.sz ∧ m ≤ maxLen ∧ Rows c Z w xs cs := by
  rw [Bool.and_eq_true, beq_iff_eq, Nat.ble_eq] at hi
  obtain ⟨hix, hmx⟩ := hi
  obtain ⟨g1, g2, g3⟩ := elems_rows hp (ρ := ρ) (Z := Z) (w := w) fun {u a} hm hx => hf (by simp [Op.operands]; simpa using hm) hx
  have hlen : ps.toList.length = m := by have := congrArg List.length hix; simpa using this
  have hxl : xs.length = m := by
    have : ∀ {ps : List (Nat × Operand)} {xs : List T}, Elems fr c ps xs → xs.length = ps.length := by
      intro ps xs h
      induction h with
      | nil => rfl
      | c _ _ _ ih => simp [ih]
    rw [this hp, hlen]
  obtain ⟨i, i1, i2, i3, i4⟩ := hinfo.parts
  have hm2 : ¬ (m * c.sz > 2 ^ 24) := by simp only [Nat.reducePow]; omega
  generalize hcs : (ps.toList.map fun p => (ρ p.2).cells.toList).flatten = cs at g1 g2
  have hfill : ∀ z0 : Array Value, Instr.fill (fun q => some (q * c.sz, c.sz)) ((Array.range (m * c.sz)).map (z0[· % z0.size]!)) ((ps.map fun p => (p.1, ρ p.2)).toList) = some cs.toArray := by
    intro z0
    have := fill_rows c.sz (ps.toList.map fun p => (p.1, ρ p.2)) 0 [] ((Array.range (m * c.sz)).map (z0[· % z0.size]!)).toList (by simpa [hlen, Function.comp_def] using hix) (by simp) (by simp [hlen]) (fun p hp => by
      simp only [List.mem_map] at hp
      obtain ⟨q, hq, rfl⟩ := hp
      exact g3 q hq)
    simp only [List.nil_append, Array.toArray_toList, List.map_map, Function.comp_def, hcs] at this
    simpa using this
  refine ⟨cs, ?_, hxl, by rw [g2, hxl], ?_, g1⟩
  · have hf1 : ∀ z0 : Array Value, Instr.fill (fun q => some (q * c.sz, c.sz)) ((Array.range (m * c.sz)).map (fun x => z0[x % z0.size]!)) (Array.map (fun x => (x.fst, ρ x.snd)) ps).toList = some cs.toArray := hfill
    have h00 : ¬ (0 > 2 ^ 24) := by decide
    by_cases hz : m * c.sz = 0
    · have := hf1 #[]
      rw [hz] at this
      simp only [execOp, ho, Instr.buildSlice, Sem.run_bind, run_underlying ht, Result.andThen_ok, hs w, hz, h00, Sem.run_pure, if_true, if_false, this, newRow, newObj, Sem.run]
      rfl
    · simp only [execOp, ho, Instr.buildSlice, Sem.run_bind, run_underlying ht, Result.andThen_ok, hs w, hm2, hz, Sem.run_pure, if_false, zeroValue, typeInfo, i1, i2, program, Sem.run, hf1, newRow, newObj]
      rfl
  · have : m * 1 ≤ m * c.sz := Nat.mul_le_mul_left _ c.pos
    rw [mx]; omega

theorem sBS {T : Type} {c : Co T} {ps : Array (Nat × Operand)} {xs : List T} {z : Value} {m bytes : Nat} (ht : P.underlying t = some (.slice e)) (hs : SizeIs P e c.sz) (hinfo : Info P e z c.sz bytes) (hp : Elems fr c ps.toList xs) (hi : (ps.toList.map (·.1) == List.range' 0 m && Nat.ble (m * c.sz) 16777216) = true) (hdn : Nat.blt d n = true)
    (h : ∀ v, SimL P f n ops l k ((d, .sv v) :: fr) (.own e c v xs :: H) x X K) : SimL P f n ops (⟨some d, .buildSlice t m ps, ty, pos, aft, none⟩ :: l) k fr H x X K := by
  refine sEff (I := Value) (fun o ho hty w0 F0 Z0 w F Z ρ hinv hf => ?_) hdn h
  obtain ⟨cs, hr, hxl, hcl, hmm, g1⟩ := bs_run ht hs hinfo hp hi ho hf
  refine ⟨.slice (some ⟨w.heap.size, 0, none⟩) m m, w.alloc (.cells cs.toArray e), .slice (some ⟨w.heap.size, 0, none⟩) m m, _, Z, hr, hinv.push _ (.own e c (.slice (some ⟨w.heap.size, 0, none⟩) m m) xs) ?_, fun _ x => x, (Step.alloc w _ _).keep' hinv, rfl, _, _, _, rfl⟩
  refine .inl ⟨cs, ⟨by rw [hxl, hcl], .inr ⟨w.heap.size, m, cs.toArray, by rw [hxl], Nat.zero_le _, .new (heap_alloc_new w _), by rw [hxl]; exact Nat.le_refl _, hmm, by simp [hcl], ?_⟩⟩, fun b hb => ?_, ?_⟩
  · rw [hxl]; exact List.take_of_length_le (by simp [hcl])
  · simp [Value.ownBlock] at hb; exact hb.symm
  · exact g1.st (fun _ x => x) ((Step.alloc w _ _).keep' hinv)

/-- The same, as memory that is read alone: a quiet operation. -/
theorem dBS {T : Type} {c : Co T} {ps : Array (Nat × Operand)} {xs : List T} {z : Value} {m bytes : Nat} (ht : P.underlying t = some (.slice e)) (hs : SizeIs P e c.sz) (hinfo : Info P e z c.sz bytes) (hp : Elems fr c ps.toList xs) (hi : (ps.toList.map (·.1) == List.range' 0 m && Nat.ble (m * c.sz) 16777216) = true) : D P n H (.buildSlice t m ps) ty fr (.fsl c xs) := by
  intro o ho hty w0 F0 Z0 w F Z tmps hn hinv hf
  obtain ⟨cs, hr, hxl, hcl, hmm, g1⟩ := bs_run ht hs hinfo hp hi ho (ρ := (⟨tmps, []⟩ : Act).eval) (Z := Z) fun hm hx => arg_ok hf hx hm
  have s := Step.alloc w (.cells cs.toArray e) (fun _ => False)
  refine .inl ⟨_, _, hr, fun b => Z b ∨ b = w.heap.size, fun _ x => .inl x, fun b x => x.imp id fun e => by subst e; exact ⟨Nat.le_refl _, by simp⟩, s, ?_⟩
  have hown : (Res.own e c (.slice (some ⟨w.heap.size, 0, none⟩) m m) xs).h Z (w.alloc (.cells cs.toArray e)) (fun b => b = w.heap.size) := by
    refine .inl ⟨cs, ⟨by rw [hxl, hcl], .inr ⟨w.heap.size, m, cs.toArray, by rw [hxl], Nat.zero_le _, .new (heap_alloc_new w _), by rw [hxl]; exact Nat.le_refl _, hmm, by simp [hcl], ?_⟩⟩, fun b hb => ?_, ?_⟩
    · rw [hxl]; exact List.take_of_length_le (by simp [hcl])
    · simp [Value.ownBlock] at hb; exact hb.symm
    · exact g1.st (fun _ x => x) (s.keep' hinv)
  exact own_fsl hown

theorem dBS0 {T : Type} {c : Co T} {z : Value} {bytes : Nat} (ht : P.underlying t = some (.slice e)) (hs : SizeIs P e c.sz) (hinfo : Info P e z c.sz bytes) : D P n H (.buildSlice t 0 #[]) ty fr .es := by
  intro o ho hty w0 F0 Z0 w F Z tmps hn hinv hf
  obtain ⟨cs, hr, hxl, hcl, hmm, g1⟩ := bs_run (c := c) (xs := []) (ps := #[]) (m := 0) (fr := fr) ht hs hinfo .nil (by simp) ho (ρ := (⟨tmps, []⟩ : Act).eval) (w := w) (Z := Z) fun hm hx => arg_ok hf hx hm
  refine .inl ⟨_, _, hr, fun b => Z b ∨ b = w.heap.size, fun _ x => .inl x, fun b x => x.imp id fun e => by subst e; exact ⟨Nat.le_refl _, by simp⟩, Step.alloc w (.cells cs.toArray e) (fun _ => False), _, rfl⟩

/-! ### Strings -/
variable {y z : Operand} {s u : ByteArray}
theorem bytes_beq (s u : ByteArray) : (s == u) = decide (s = u) := by
  cases s with
  | mk a => cases u with
    | mk b =>
      show (a == b) = _
      rw [Bool.eq_iff_iff]; simp
theorem bytes_beq' (s u : ByteArray) : (s.toList == u.toList) = decide (s = u) := by rw [← beq_toListBytes, bytes_beq]
theorem dEqS (hy : arg fr y = some (.lit (.string s))) (hz : arg fr z = some (.lit (.string u))) : D P n H (.binOp .eql t y z t') ty fr (Ab (decide (s = u))) :=
  .of fun o ho hty w Z F ρ _ hf => by
    have e1 : ρ y = _ := hf (by simp [Op.operands]) hy
    have e2 : ρ z = _ := hf (by simp [Op.operands]) hz
    exact ⟨.bool (decide (s = u)), by simp [execOp, ho, e1, e2, eqGuard_at_string, binOp, Op.stringOp, Sem.run_bind, bytes_beq'], rfl⟩
theorem dNeS (hy : arg fr y = some (.lit (.string s))) (hz : arg fr z = some (.lit (.string u))) : D P n H (.binOp .neq t y z t') ty fr (Ab (decide (s ≠ u))) :=
  .of fun o ho hty w Z F ρ _ hf => by
    have e1 : ρ y = _ := hf (by simp [Op.operands]) hy
    have e2 : ρ z = _ := hf (by simp [Op.operands]) hz
    exact ⟨.bool (decide (s ≠ u)), by simp [execOp, ho, e1, e2, eqGuard_at_string, binOp, Op.stringOp, Sem.run_bind, bytes_beq'], rfl⟩
theorem dCat (hb : (s.size : Int) + (u.size : Int) ≤ 140737488355328) (hy : arg fr y = some (.lit (.string s))) (hz : arg fr z = some (.lit (.string u))) : D P n H (.binOp .add t y z t') ty fr (.lit (.string (s ++ u))) :=
  .of fun o ho hty w Z F ρ _ hf => by
    have e1 : ρ y = _ := hf (by simp [Op.operands]) hy
    have e2 : ρ z = _ := hf (by simp [Op.operands]) hz
    have hn : ¬ (9223372036854775807 < (s.size : Int) + (u.size : Int)) := by omega
    exact ⟨.string (s ++ u), by simp [execOp, ho, e1, e2, eqGuard_at_string, binOp, Op.stringOp, Sem.run_bind, hn], rfl⟩
end
end S
end Go.Proofs.Ytpjhcllohagjoaa
