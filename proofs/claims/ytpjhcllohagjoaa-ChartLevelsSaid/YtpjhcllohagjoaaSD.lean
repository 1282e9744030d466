/-
  Sim, the fourth text: what the call owns (boxes, slices that it made), and the operations that make, write and hand on such memory; calls. Own work; no claim stands here.
-/
import Derived.Test.YtpjhcllohagjoaaSC
import Derived.Laws.CopyRow
import Derived.Laws.OwnMore
namespace Go.Proofs.Ytpjhcllohagjoaa
namespace S
open Go.RowKit
set_option linter.unusedVariables false
set_option linter.unusedSimpArgs false

/-! ## What is owned -/

/-- A variable (a struct, an array) of the call's own, cell by cell. -/
def Res.box (b : Nat) (as : List AV) : Res :=
  ⟨fun Z w F => F b ∧ ∃ vs t, w.heap[b]? = some (.cells vs.toArray t (0, 0)) ∧ AllP Z w as vs,
   fun hz hk h => by
    obtain ⟨hb, vs, t, h1, h2⟩ := h
    exact ⟨hb, vs, t, (hk b (.inr hb)).trans h1, h2.st hz fun c hc => hk c (.inl hc)⟩⟩

/-- The value of a slice of the call's own. -/
def AV.sv (v : Value) : AV := ⟨fun _ _ u => u = v ∧ ∃ A n m, v = .slice A n m, fun _ _ h => h⟩

def Rows {T : Type} (c : Co T) (Z : Nat → Prop) (w : World) (xs : List T) (cs : List Value) : Prop := ∀ i x, xs[i]? = some x → ∃ vs, AllP Z w (c.e x) vs ∧ ∀ j u, vs[j]? = some u → cs[i * c.sz + j]? = some u

theorem Rows.st {T : Type} {c : Co T} {Z Z' : Nat → Prop} {w w' : World} {xs : List T} {cs : List Value} (hz : ∀ b, Z b → Z' b) (hk : Keep Z w w') (h : Rows c Z w xs cs) : Rows c Z' w' xs cs := fun i x hx => by
  obtain ⟨vs, h1, h2⟩ := h i x hx
  exact ⟨vs, h1.st hz hk, h2⟩

/-- Nothing of the row is frozen (what bytes of a string leave marks the place behind the last one). -/
def FzOk (fz : Nat × Nat) (m : Nat) : Prop := fz = (0, 0) ∨ m ≤ fz.1
def RowAt (w : World) (g : Nat) (cur : Array Value) (t : TypeId) : Prop := ∃ fz, w.heap[g]? = some (.cells cur t fz) ∧ FzOk fz cur.size
theorem RowAt.new {w : World} {g : Nat} {cur : Array Value} {t : TypeId} (h : w.heap[g]? = some (.cells cur t (0, 0))) : RowAt w g cur t := ⟨(0, 0), h, .inl rfl⟩
def rowOwn (w : World) (t : TypeId) (sz : Nat) (v : Value) (n : Nat) (xs : List Value) : Prop :=
  xs.length = n * sz ∧ ((v = .slice none 0 0 ∧ n = 0) ∨ ∃ g cap cur, v = .slice (some ⟨g, 0, none⟩) n cap ∧ 0 ≤ g ∧ RowAt w g cur t ∧ n ≤ cap ∧ cap ≤ maxLen ∧ cur.size = cap * sz ∧ cur.toList.take (n * sz) = xs)
theorem rowOwn_of {w : World} {t : TypeId} {sz n : Nat} {v : Value} {xs : List Value} (h : w.ownsRow 0 t sz v n xs) : rowOwn w t sz v n xs :=
  ⟨h.1, h.2.imp id fun ⟨g, cap, cur, hv, hg, hh, r⟩ => ⟨g, cap, cur, hv, hg, .new hh, r⟩⟩
theorem rowOwn_keep {w w' : World} {t : TypeId} {sz n : Nat} {v : Value} {cs : List Value} (h : rowOwn w t sz v n cs) (hk : ∀ b, v.ownBlock = some b → w'.heap[b]? = w.heap[b]?) : rowOwn w' t sz v n cs := by
  obtain ⟨h1, h2 | ⟨g, cap, cur, hv, hg, ⟨fz, hh, hf⟩, r⟩⟩ := h
  · exact ⟨h1, .inl h2⟩
  · exact ⟨h1, .inr ⟨g, cap, cur, hv, hg, ⟨fz, (hk g (by rw [hv]; rfl)).trans hh, hf⟩, r⟩⟩

/-- A slice of the call's own: t: its elements' type; v: the slice's value; xs: its elements. -/
def Res.own {T : Type} (t : TypeId) (c : Co T) (v : Value) (xs : List T) : Res :=
  ⟨fun Z w F => (∃ cs, rowOwn w t c.sz v xs.length cs ∧ (∀ b, v.ownBlock = some b → F b) ∧ Rows c Z w xs cs) ∨ (xs = [] ∧ ∃ A, v = .slice A 0 0),
   fun hz hk h => h.imp (fun ⟨cs, h1, h2, h3⟩ => ⟨cs, rowOwn_keep h1 (fun b hb => hk b (.inr (h2 b hb))), h2, h3.st hz fun c hc => hk c (.inl hc)⟩) id⟩

/-- That a slice's memory is not written any more. -/
def Res.fz {T : Type} (c : Co T) (v : Value) (xs : List T) : Res := ⟨fun Z w _ => (AV.fsl c xs).p Z w v, fun hz hk h => AV.st _ hz (fun b hb => hk b (.inl hb)) h⟩

theorem own_fsl {T : Type} {t : TypeId} {c : Co T} {v : Value} {xs : List T} {Z F : Nat → Prop} {w : World} (h : (Res.own t c v xs).h Z w F) : (AV.fsl c xs).p (fun b => Z b ∨ F b) w v := by
  obtain ⟨cs, ⟨hl, ho⟩, hb, hr⟩ | ⟨rfl, A, rfl⟩ := h
  case inr => exact ⟨A, 0, rfl, Nat.le_refl _, fun i x hx => by simp at hx⟩
  rcases ho with ⟨hv, hn⟩ | ⟨g, cap, cur, hv, hg, ⟨fz, hh, _⟩, hcap, hm, hcs, htk⟩
  · refine ⟨none, 0, by rw [hv, hn], by omega, fun i x hx => ?_⟩
    have : xs = [] := List.length_eq_zero_iff.1 hn
    subst this; simp at hx
  · refine ⟨some ⟨g, 0, none⟩, cap, hv, hcap, fun i x hx => ⟨_, rfl, .inr (hb g (by rw [hv]; rfl)), ?_⟩⟩
    obtain ⟨vs, h1, h2⟩ := hr i x hx
    refine ⟨vs, h1.st (fun _ h => .inl h) (fun _ _ => rfl), fun j u hj => ?_⟩
    have h3 := h2 j u hj
    rw [add_add, Addr.add_lit, cell_of_row w g _ cur t fz hh]
    rw [← htk, List.getElem?_take] at h3
    split at h3
    · simpa using h3
    · cases h3

theorem own_sv {T : Type} {t : TypeId} {c : Co T} {v : Value} {xs : List T} {Z F : Nat → Prop} {w : World} (h : (Res.own t c v xs).h Z w F) : ∃ A m, v = .slice A xs.length m := by
  obtain ⟨A, m, e, _⟩ := own_fsl h
  exact ⟨A, m, e⟩

theorem AllP.oneL {Z : Nat → Prop} {w : World} {as : List AV} {vs : List Value} (h : AllP Z w as vs) (ho : OneL as) : ∀ v ∈ vs, v.oneCell' = true := by
  induction h with
  | nil => intro v hv; cases hv
  | cons h _ ih =>
    intro v hv
    rcases List.mem_cons.1 hv with rfl | hv
    · exact ho.1 _ _ _ h
    · exact ih ho.2 v hv

section
variable {P : Program} {f : FuncId} {n : Nat} {ops : Array Oper} {l : List Oper} {k : List Item} {fr : Fr} {H : List Res} {ρ R : Type} {x : Option ρ} {X : ρ → Option R} {K : R → AV → List Res → Prop} {ty t t' e : TypeId} {d : Nat} {pos : String} {aft : Array Edge}

/-- An operation that makes or writes memory of the call's own, and gives a value. -/
theorem sEff {op : Op} {I : Type} {av : I → AV} {H' : I → List Res}
    (hop : ∀ (o : Oper), o.op = op → o.type = ty → ∀ (w0 : World) (F0 Z0 : Nat → Prop) (w : World) (F Z : Nat → Prop) (ρ : Operand → Value), Inv w0 w F0 Z0 F Z H → Rho op fr Z w ρ →
      ∃ v w' ι F' Z', (execOp ρ o).run P w = .ok (.value v) w' ∧ Inv w0 w' F0 Z0 F' Z' (H' ι) ∧ (∀ b, Z b → Z' b) ∧ Keep Z w w' ∧ (av ι).p Z' w' v)
    (hdn : Nat.blt d n = true) (h : ∀ ι, SimL P f n ops l k ((d, av ι) :: fr) (H' ι) x X K) : SimL P f n ops (⟨some d, op, ty, pos, aft, none⟩ :: l) k fr H x X K := by
  intro is hs r hr w0 F0 Z0 w F Z tmps hn hi hf
  cases is with
  | nil => simp at hs
  | cons i is =>
    simp only [List.map_cons, List.cons.injEq] at hs
    have hdn' : d < n := by simpa [Nat.blt_eq] using hdn
    obtain ⟨v, w', ι, F', Z', hrun, hi', hz, hk, hv⟩ := hop ⟨some d, op, ty, pos, aft, none⟩ rfl rfl w0 F0 Z0 w F Z (⟨tmps, []⟩ : Act).eval hi fun hm hx => arg_ok (hf.on _) hx hm
    exact .value hs.1 (wanted_none rfl) hrun (h ι is hs.2 r hr w0 F0 Z0 w' F' Z' _ (by simpa [putT] using hn) hi' ((hf.st hz hk).put (by omega) hv))

/-- An operation that writes and gives no value. -/
theorem sEff0 {op : Op} {H' : List Res}
    (hop : ∀ (o : Oper), o.op = op → ∀ (w0 : World) (F0 Z0 : Nat → Prop) (w : World) (F Z : Nat → Prop) (ρ : Operand → Value), Inv w0 w F0 Z0 F Z H → Rho op fr Z w ρ →
      ∃ w' F' Z', (execOp ρ o).run P w = .ok .skip w' ∧ Inv w0 w' F0 Z0 F' Z' H' ∧ (∀ b, Z b → Z' b) ∧ Keep Z w w')
    (h : SimL P f n ops l k fr H' x X K) : SimL P f n ops (⟨none, op, ty, pos, aft, none⟩ :: l) k fr H x X K := by
  intro is hs r hr w0 F0 Z0 w F Z tmps hn hi hf
  cases is with
  | nil => simp at hs
  | cons i is =>
    simp only [List.map_cons, List.cons.injEq] at hs
    obtain ⟨w', F', Z', hrun, hi', hz, hk⟩ := hop ⟨none, op, ty, pos, aft, none⟩ rfl w0 F0 Z0 w F Z (⟨tmps, []⟩ : Act).eval hi fun hm hx => arg_ok (hf.on _) hx hm
    exact .skipped hs.1 (wanted_none rfl) hrun (h is hs.2 r hr w0 F0 Z0 w' F' Z' _ hn hi' (hf.st hz hk))

theorem Inv.push {w0 w : World} {F0 Z0 F Z : Nat → Prop} (h : Inv w0 w F0 Z0 F Z H) (o : Obj) (r : Res) (hr : r.h Z (w.alloc o) (fun b => b = w.heap.size)) : Inv w0 (w.alloc o) F0 Z0 (fun b => F b ∨ b = w.heap.size) Z (r :: H) := by
  have s : Step w (w.alloc o) (fun _ => False) := Step.alloc w o _
  refine h.step s (fun _ x => x.elim) (fun _ x => x) (fun _ x => .inl x) (fun b hb => ?_) ?_
  · rcases hb with hb | hb
    · exact ⟨.inl hb, (h.fin b hb).2.2⟩
    · subst hb
      refine ⟨.inr ⟨Nat.le_refl _, by simp⟩, fun hz => ?_⟩
      have := (h.zin _ hz).1; omega
  · refine ⟨fun b => b = w.heap.size, F, hr, h.res.st (fun _ x => x) (fun b hb => s.keep b ?_ id), fun b hb => ?_, fun b hb => .inl hb⟩
    · rcases hb with x | x
      · exact (h.zin b x).1
      · exact (h.fin b x).1
    · subst hb
      exact ⟨.inr rfl, fun hF => by have := (h.fin _ hF).1; omega⟩

/-- The j-th of what is owned is written anew; nothing else is. -/
theorem Inv.turn {w0 w w' : World} {F0 Z0 F Z : Nat → Prop} {j : Nat} {r r' : Res} (h : Inv w0 w F0 Z0 F Z H) (hj : H[j]? = some r)
    (hw : ∀ F1 : Nat → Prop, r.h Z w F1 → (∀ b, Z b → b < w.heap.size ∧ ¬ F1 b) → ∃ G1 : Nat → Prop, Step w w' F1 ∧ r'.h Z w' G1 ∧ (∀ b, G1 b → F1 b ∨ (w.heap.size ≤ b ∧ b < w'.heap.size))) : ∃ F', Inv w0 w' F0 Z0 F' Z (H.set j r') ∧ Keep Z w w' := by
  obtain ⟨F1, h1, hF, hset⟩ := HAll.set (r' := r') hj h.res
  obtain ⟨G1, s, h2, hG⟩ := hw F1 h1 fun b hb => ⟨(h.zin b hb).1, fun x => (h.fin b (hF b x)).2.2 hb⟩
  refine ⟨fun b => F b ∨ G1 b, h.step s hF (fun _ x => x) (fun _ x => .inl x) (fun b hb => ?_) (hset Z w' G1 (fun _ x => x) (fun b hb => s.keep b ?_ ?_) h2 (fun b hb => (hG b hb).imp id fun x y => ?_)), h.keepZ s hF⟩
  · rcases hb with hb | hb
    · exact ⟨.inl hb, (h.fin b hb).2.2⟩
    · rcases hG b hb with x | x
      · exact ⟨.inl (hF b x), (h.fin b (hF b x)).2.2⟩
      · exact ⟨.inr x, fun hz => by have := (h.zin b hz).1; omega⟩
  · rcases hb with x | x
    · exact (h.zin b x).1
    · exact (h.fin b x.1).1
  · rcases hb with x | x
    · exact fun y => (h.fin b (hF b y)).2.2 x
    · exact x.2
  · have := (h.fin b y).1; omega

/-! ## Boxes -/

theorem alloc_cells (w : World) (vs : List Value) (t : TypeId) : (w.alloc (.cells vs.toArray t)).heap[w.heap.size]? = some (.cells vs.toArray t (0, 0)) := heap_alloc_new w _

theorem sAlloc {zs : List Value} {az : List AV} (hz : ∀ w, (Instr.alloc t true (.tuple #[])).run P w = .ok (.pointer (some ⟨w.heap.size, 0, none⟩)) (w.alloc (.cells zs.toArray t))) (ha : ∀ Z w, AllP Z w az zs) (hdn : Nat.blt d n = true)
    (h : ∀ b, SimL P f n ops l k ((d, .lit (.pointer (some ⟨b, 0, none⟩))) :: fr) (.box b az :: H) x X K) : SimL P f n ops (⟨some d, .alloc t, ty, pos, aft, none⟩ :: l) k fr H x X K :=
  sEff (I := Nat) (fun o ho hty w0 F0 Z0 w F Z ρ hi hf => ⟨.pointer (some ⟨w.heap.size, 0, none⟩), w.alloc (.cells zs.toArray t), w.heap.size, _, Z, by simp [execOp, ho, hz w, Sem.run_bind], hi.push _ (.box w.heap.size az) ⟨rfl, zs, t, alloc_cells w zs t, ha _ _⟩, fun _ x => x, (Step.alloc w _ _).keep' hi, rfl⟩) hdn h

theorem box_run {v : Value} {w : World} : (Instr.box t v).run P w = .ok (.pointer (some ⟨w.heap.size, 0, none⟩)) (w.alloc (.cells v.cells.toList.toArray t)) := rfl

theorem sBox {y : Operand} {a : AV} {as : List AV} (hy : arg fr y = some a) (hc : CellsOf a as) (hdn : Nat.blt d n = true)
    (h : ∀ b, SimL P f n ops l k ((d, .lit (.pointer (some ⟨b, 0, none⟩))) :: fr) (.box b as :: H) x X K) : SimL P f n ops (⟨some d, .box t y, ty, pos, aft, none⟩ :: l) k fr H x X K :=
  sEff (I := Nat) (fun o ho hty w0 F0 Z0 w F Z ρ hi hf => ⟨.pointer (some ⟨w.heap.size, 0, none⟩), w.alloc (.cells (ρ y).cells.toList.toArray t), w.heap.size, _, Z, by simp only [execOp, ho, box_run, Sem.run_bind, Result.andThen_ok, Sem.run_pure], hi.push _ (.box w.heap.size as) ⟨rfl, _, t, alloc_cells w _ t, hc _ _ _ (AV.st _ (fun _ x => x) ((Step.alloc w _ _).keep' hi) (hf (by simp [Op.operands]) hy))⟩, fun _ x => x, (Step.alloc w _ _).keep' hi, rfl⟩) hdn h

/-- A box that is never written: a quiet operation. -/
theorem dBoxF {y : Operand} {a : AV} {az : List AV} (hy : arg fr y = some a) (hc : CellsOf a az) : D P n H (.box t y) ty fr (.fptr az) := by
  intro o ho hty w0 F0 Z0 w F Z tmps hn hi hf
  have hp := arg_ok hf hy (by simp [Op.operands])
  have s := Step.alloc w (.cells ((⟨tmps, []⟩ : Act).eval y).cells.toList.toArray t) (fun _ => False)
  refine .inl ⟨.pointer (some ⟨w.heap.size, 0, none⟩), _, by simp only [execOp, ho, box_run, Sem.run_bind, Result.andThen_ok, Sem.run_pure], fun b => Z b ∨ b = w.heap.size, fun _ x => .inl x, fun b x => x.imp id fun e => by subst e; exact ⟨Nat.le_refl _, by simp⟩, s, ⟨w.heap.size, 0, none⟩, rfl, .inr rfl, _, (hc _ _ _ hp).st (fun _ x => .inl x) (s.keep' hi), fun j u hj => ?_⟩
  rw [Addr.add_lit, cell_of_row _ _ _ _ _ _ (alloc_cells w _ t)]
  simpa using hj

theorem HAll.at {Z F : Nat → Prop} {w : World} {j : Nat} {r : Res} (h : HAll H Z w F) (hj : H[j]? = some r) : ∃ F1 : Nat → Prop, r.h Z w F1 ∧ ∀ b, F1 b → F b := by
  obtain ⟨F1, F2, h1, _, d1, _⟩ := h.take hj
  exact ⟨F1, h1, fun b hb => (d1 b hb).1⟩

theorem dFAp {y : Operand} {b o j off : Nat} (hf' : FA P t j off) (hy : arg fr y = some (.lit (.pointer (some ⟨b, o, none⟩)))) : D P n H (.fieldAddr t y j) ty fr (.lit (.pointer (some ⟨b, o + off, none⟩))) :=
  .of fun q ho hty w Z F ρ _ hf => by
    have e1 : ρ y = _ := hf (by simp [Op.operands]) hy
    exact ⟨.pointer (some ⟨b, o + off, none⟩), by simp [execOp, ho, e1, hf' _ w, Sem.run_bind, Addr.add_lit], rfl⟩

theorem dLdB {y : Operand} {b o j : Nat} {as : List AV} {a : AV} (hg : IsAgg P t false) (hy : arg fr y = some (.lit (.pointer (some ⟨b, o, none⟩)))) (hj : H[j]? = some (.box b as)) (ha : as[o]? = some a) : D P n H (.load t y) ty fr a :=
  .of fun q ho hty w Z F ρ hH hf => by
    have e1 : ρ y = _ := hf (by simp [Op.operands]) hy
    obtain ⟨F1, ⟨hb, vs, t', h1, h2⟩, _⟩ := hH.at hj
    obtain ⟨v, hv, hp⟩ := h2.get ha
    exact ⟨v, by simp [execOp, ho, e1, load_one (a := ⟨b, o, none⟩) (v := v) hg (by rw [cell_of_row _ _ _ _ _ _ h1]; simpa using hv), Sem.run_bind], hp⟩
theorem dLdBA {y : Operand} {b o j m : Nat} {as : List AV} (hg : IsAgg P t true) (hs : SizeIs P t m) (hy : arg fr y = some (.lit (.pointer (some ⟨b, o, none⟩)))) (hj : H[j]? = some (.box b as)) (hm : o + m ≤ as.length) : D P n H (.load t y) ty fr (.agg ((as.drop o).take m)) :=
  .of fun q ho hty w Z F ρ hH hf => by
    have e1 : ρ y = _ := hf (by simp [Op.operands]) hy
    obtain ⟨F1, ⟨hb, vs, t', h1, h2⟩, _⟩ := hH.at hj
    have hl := h2.length
    refine ⟨.agg ((vs.drop o).take m).toArray, ?_, _, rfl, (h2.drop o).take m⟩
    have := load_agg (P := P) (t := t) (a := ⟨b, o, none⟩) (vs := (vs.drop o).take m) (w := w) hg hs (by simp; omega) (fun i u hu => by
      rw [Addr.add_lit, cell_of_row _ _ _ _ _ _ h1]
      rw [List.getElem?_take] at hu
      split at hu
      · simpa using hu
      · cases hu)
    simp only [execOp, ho, e1, this, Sem.run_bind, Result.andThen_ok, Sem.run_pure]

def splice (as : List AV) (o : Nat) (bs : List AV) : List AV := as.take o ++ (bs ++ as.drop (o + bs.length))

theorem AllP.splice {Z : Nat → Prop} {w : World} {as bs : List AV} {vs us : List Value} (h : AllP Z w as vs) (h' : AllP Z w bs us) (o : Nat) : AllP Z w (S.splice as o bs) (vs.take o ++ us ++ vs.drop (o + us.length)) := by
  have hl := h'.length
  unfold S.splice
  rw [List.append_assoc, ← hl]
  exact (h.take o).append (h'.append (h.drop _))

theorem run_storeCells_fz (g o : Nat) (t : TypeId) (fz : Nat × Nat) : ∀ (vs : List Value) (i : Nat) (cur : Array Value) (w : World), w.heap[g]? = some (.cells cur t fz) → FzOk fz cur.size → o + i + vs.length ≤ cur.size → (∀ v ∈ vs, v.oneCell' = true) →
    (storeCells ⟨g, o, none⟩ vs i).run P w = .ok () (w.setRow g (cur.toList.take (o + i) ++ vs ++ cur.toList.drop (o + i + vs.length)).toArray)
  | [], i, cur, w, hg, _, _, _ => by
    simp only [storeCells, List.append_nil, List.length_nil, Nat.add_zero, List.take_append_drop, Array.toArray_toList]
    rw [setRow_self w g cur t fz hg]
    rfl
  | v :: rest, i, cur, w, hg, hz, hl, h1 => by
    have hi : o + i < cur.size := by simp at hl; omega
    have hadd : (⟨g, o, none⟩ : Addr).add i = ⟨g, o + i, none⟩ := by unfold Addr.add; split <;> simp_all
    have hcell : w.cell? ⟨g, o + i, none⟩ = some cur[o + i] := by simp [World.cell?, hg, hi]
    have hfro : w.frozen? ⟨g, o + i, none⟩ = false := by
      rcases hz with rfl | hz
      · simp [World.frozen?, hg]
      · obtain ⟨lo, hi'⟩ := fz
        simp only at hz
        simp only [World.frozen?, hg, Bool.and_eq_false_iff, decide_eq_false_iff_not]
        left; omega
    have hst : (store ((⟨g, o, none⟩ : Addr).add i) v).run P w = .ok () (w.setRow g (cur.setIfInBounds (o + i) v)) := by
      rw [hadd, run_store P w _ v _ (h1 v (by simp)), hcell]
      simp [hfro, setCell_eq_setRow w g (o + i) cur t fz v hg]
    have ih := run_storeCells_fz g o t fz rest (i + 1) (cur.setIfInBounds (o + i) v) (w.setRow g (cur.setIfInBounds (o + i) v)) (setRow_heap w g cur _ t _ hg) (by simpa using hz) (by simp at hl ⊢; omega) (fun x hx => h1 x (by simp [hx]))
    simp only [storeCells, Sem.run_bind, hst, Result.andThen_ok, ih, setRow_setRow]
    congr 3
    have e := list_seg_step cur.toList (o + i) v rest (by simp at hl ⊢; omega)
    simpa [Array.toList_setIfInBounds, Nat.add_assoc] using e

theorem store_row {b o m : Nat} {vs us : List Value} {t' : TypeId} {fz : Nat × Nat} {v : Value} {w : World} (hs : SizeIs P t m) (hv : v.cells.toList = us) (hm : us.length = m) (hh : w.heap[b]? = some (.cells vs.toArray t' fz)) (hz : FzOk fz vs.length) (hl : o + m ≤ vs.length) (h1 : ∀ u ∈ us, u.oneCell' = true) :
    (Instr.storeAt t (.pointer (some ⟨b, o, none⟩)) v).run P w = .ok () (w.setRow b (vs.take o ++ us ++ vs.drop (o + us.length)).toArray) := by
  have hc : v.cells.size = m := by rw [← hm, ← hv]; simp
  have := run_storeCells_fz (P := P) b o t' fz us 0 vs.toArray w hh (by simpa using hz) (by simp; omega) h1
  simp only [Nat.add_zero] at this
  simp only [Instr.storeAt, Instr.sureAddr, storeVar, Sem.run_bind, Sem.run_pure, Result.andThen_ok, hs w, hc, ne_eq, not_true_eq_false, if_false, hv, this]

theorem Step.setRow (w : World) (b : Nat) (cs : Array Value) (F1 : Nat → Prop) (h : F1 b) : Step w (w.setRow b cs) F1 := by
  refine ⟨rfl, rfl, rfl, Nat.le_refl _, by simp [World.setRow], fun c _ hn => ?_⟩
  have : c ≠ b := fun e => hn (e ▸ h)
  simp only [World.setRow, Array.getElem?_modify]
  rw [if_neg (fun e => this e.symm)]

theorem stB_op {y v : Operand} {b o j m : Nat} {az bs : List AV} {a : AV} (hs : SizeIs P t m) (hy : arg fr y = some (.lit (.pointer (some ⟨b, o, none⟩)))) (hj : H[j]? = some (.box b az)) (hv : arg fr v = some a) (hc : CellsOf a bs) (ho1 : OneL bs) (hm : bs.length = m) (hl : o + m ≤ az.length)
    (q : Oper) (ho : q.op = .store t y v) (w0 : World) (F0 Z0 : Nat → Prop) (w : World) (F Z : Nat → Prop) (ρ : Operand → Value) (hi : Inv w0 w F0 Z0 F Z H) (hf : Rho (.store t y v) fr Z w ρ) :
    ∃ w' F' Z', (execOp ρ q).run P w = .ok .skip w' ∧ Inv w0 w' F0 Z0 F' Z' (H.set j (.box b (splice az o bs))) ∧ (∀ b, Z b → Z' b) ∧ Keep Z w w' := by
  have e1 : ρ y = _ := hf (by simp [Op.operands]) hy
  have hp := hf (by simp [Op.operands]) hv
  have hcs := hc _ _ _ hp
  obtain ⟨F1, ⟨hb, vs, t', h1, h2⟩, _⟩ := hi.res.at hj
  have l1 := hcs.length
  have l2 := h2.length
  have hr := store_row (P := P) (t := t) (b := b) (o := o) (v := ρ v) (us := (ρ v).cells.toList) (vs := vs) (w := w) hs rfl (by omega) h1 (.inl rfl) (by omega) (hcs.oneL ho1)
  obtain ⟨F', hi', hk⟩ := hi.turn (w' := w.setRow b (vs.take o ++ (ρ v).cells.toList ++ vs.drop (o + (ρ v).cells.toList.length)).toArray) (r' := .box b (splice az o bs)) hj fun F1 ⟨hb, us, t2, g1, g2⟩ hz1 => by
    rw [h1] at g1; cases g1
    have s := Step.setRow w b (vs.take o ++ (ρ v).cells.toList ++ vs.drop (o + (ρ v).cells.toList.length)).toArray F1 hb
    refine ⟨F1, s, ⟨hb, _, t', setRow_heap w b _ _ t' _ h1, ?_⟩, fun _ x => .inl x⟩
    have hkz : Keep Z w (w.setRow b (vs.take o ++ (ρ v).cells.toList ++ vs.drop (o + (ρ v).cells.toList.length)).toArray) := fun c hz => s.keep c (hz1 c hz).1 (hz1 c hz).2
    exact (h2.splice hcs o).st (fun _ x => x) hkz
  exact ⟨_, F', Z, by simp [execOp, ho, e1, hr, Sem.run_bind], hi', fun _ x => x, hk⟩

theorem sStB {y v : Operand} {b o j m : Nat} {az bs : List AV} {a : AV} (hs : SizeIs P t m) (hy : arg fr y = some (.lit (.pointer (some ⟨b, o, none⟩)))) (hj : H[j]? = some (.box b az)) (hv : arg fr v = some a) (hc : CellsOf a bs) (ho1 : OneL bs) (hm : bs.length = m) (hl : o + m ≤ az.length)
    (h : SimL P f n ops l k fr (H.set j (.box b (splice az o bs))) x X K) : SimL P f n ops (⟨none, .store t y v, ty, pos, aft, none⟩ :: l) k fr H x X K :=
  sEff0 (stB_op hs hy hj hv hc ho1 hm hl) h
end
end S
end Go.Proofs.Ytpjhcllohagjoaa
