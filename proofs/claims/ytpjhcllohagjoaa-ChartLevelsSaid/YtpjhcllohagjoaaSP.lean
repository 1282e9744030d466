/-
  Sim: a range over a map that the call owns (the order is open), a loop by measure. Own work; no claim stands here.
-/
import Derived.Test.YtpjhcllohagjoaaSO
import Derived.Laws.IdiomRangeMap
namespace Go.Proofs.Ytpjhcllohagjoaa
namespace S
open Go.RowKit Go.MapKept
set_option linter.unusedVariables false
set_option linter.unusedSimpArgs false
set_option linter.unusedSectionVars false

/-- A loop whose rounds grow smaller; what the rounds know stands in s. -/
theorem sWhile {P : Program} {f : FuncId} {n : Nat} {k : List Item} {ρ R : Type} {x : Option ρ} {X : ρ → Option R} {K : R → AV → List Res → Prop} {c : Code} {σ : Type} (μ : σ → Nat) (fr : σ → Fr) (H : σ → List Res)
    (h : ∀ s, (∀ s', μ s' < μ s → Sim P f n (.inLoop c :: k) (fr s') (H s') x X K) → Sim P f n (.code c :: .inLoop c :: k) (fr s) (H s) x X K) (s : σ) : Sim P f n (.code (.loop c) :: k) (fr s) (H s) x X K := by
  have key : ∀ m s, μ s < m → Sim P f n (.inLoop c :: k) (fr s) (H s) x X K := by
    intro m
    induction m with
    | zero => intro s hs; exact absurd hs (Nat.not_lt_zero _)
    | succ m ih => intro s hs r hr w0 F0 Z0 w F Z tmps hn hi hf; exact .inLoop (h s (fun s' hs' => ih s' (by omega)) r hr w0 F0 Z0 w F Z tmps hn hi hf)
  intro r hr w0 F0 Z0 w F Z tmps hn hi hf
  exact .loop (h s (fun s' hs' => key (μ s' + 1) s' (by omega)) r hr w0 F0 Z0 w F Z tmps hn hi hf)

/-- Of what is owned, less is told. -/
theorem sWeak {P : Program} {f : FuncId} {n : Nat} {k : List Item} {fr : Fr} {H : List Res} {ρ R : Type} {x : Option ρ} {X : ρ → Option R} {K : R → AV → List Res → Prop} (j : Nat) {r r' : Res} (hj : H[j]? = some r) (hw : ∀ Z w F, r.h Z w F → r'.h Z w F)
    (h : Sim P f n k fr (H.set j r') x X K) : Sim P f n k fr H x X K := by
  intro a ha w0 F0 Z0 w F Z tmps hn hi hf
  obtain ⟨F', hi', hk⟩ := hi.turn (w' := w) (r' := r') hj fun F1 h1 _ => ⟨F1, Step.refl _ _, hw _ _ _ h1, fun _ x => .inl x⟩
  exact h a ha w0 F0 Z0 w F' Z tmps hn hi' hf

section
variable {κ ν : Type} (ek : κ → Value) (ev : ν → Value)
/-- A range over a map under way: left: what is still to come; cur: what came last. -/
def ItAt (w : World) (b r : Nat) (es left : List (κ × ν)) (cur : Option (κ × ν)) : Prop :=
  ∃ ms clock seen, w.heap[b]? = some (.map ms clock) ∧ Stamped ms clock ∧ ms.toList.map (fun e => (e.key, e.val)) = es.map (fun p => (ek p.1, ev p.2)) ∧ w.heap[r]? = some (.mapIter (some b) clock seen clock) ∧
    (leftOf ms seen).toList.map (fun e => (e.key, e.val)) = left.map (fun p => (ek p.1, ev p.2)) ∧ ∀ p, cur = some p → ∃ e ∈ ms.toList, seen.back? = some e.born ∧ e.key = ek p.1 ∧ e.val = ev p.2
def Res.it (b r : Nat) (es left : List (κ × ν)) (cur : Option (κ × ν)) : Res :=
  ⟨fun Z w F => F b ∧ F r ∧ b ≠ r ∧ ItAt ek ev w b r es left cur, fun hz hk ⟨hb, hr, hne, ms, clock, seen, h1, h2, h3, h4, h5⟩ => ⟨hb, hr, hne, ms, clock, seen, (hk b (.inr hb)).trans h1, h2, h3, (hk r (.inr hr)).trans h4, h5⟩⟩
end
theorem it_mp {κ ν : Type} {ek : κ → Value} {ev : ν → Value} {b r : Nat} {es left : List (κ × ν)} {cur : Option (κ × ν)} (Z : Nat → Prop) (w : World) (F : Nat → Prop) (h : (Res.it ek ev b r es left cur).h Z w F) : (Res.mp ek ev b es).h Z w F := by
  obtain ⟨hb, _, _, ms, clock, _, h1, h2, h3, _⟩ := h
  exact ⟨hb, ms, clock, h1, h2, h3⟩

theorem map_erase {α β : Type} (g : α → β) : ∀ (l : List α) (i : Nat), (l.eraseIdx i).map g = (l.map g).eraseIdx i
  | [], _ => by simp
  | _ :: _, 0 => rfl
  | a :: l, i + 1 => by simp [map_erase g l i]
theorem leftOf_none (ms : Array MapEntry) : leftOf ms #[] = ms := by unfold leftOf; exact Array.filter_eq_self.2 (by simp)
/-- What 'next' does, the iterator in whichever block. -/
theorem run_next_at {P : Program} (w : World) (ty : TypeId) (r bm since c0 : Nat) (seen : Array Nat) (es : Array MapEntry) (clock : Nat) (hr : w.heap[r]? = some (.mapIter (some bm) since seen c0)) (hb : w.heap[bm]? = some (.map es clock)) (hold : ∀ x ∈ es.toList, x.born < since) (hsc : since ≤ c0) :
    ((leftOf es seen).size = 0 ∧ (Instr.next (.pointer (some ⟨r, 0, none⟩)) false ty).run P w = .ok (.tuple #[.bool false]) w) ∨
    ∃ (j : Nat) (e : MapEntry) (q : Nat), (leftOf es seen).toList[j]? = some e ∧ (Instr.next (.pointer (some ⟨r, 0, none⟩)) false ty).run P w = .ok (.tuple #[.bool true, e.key, e.val]) { w with drawn := q, heap := w.heap.setIfInBounds r (.mapIter (some bm) since (seen.push e.born) clock) } := by
  simp only [Instr.next, getObj, Sem.run_bind, Sem.run, hr, hb, Result.andThen, next_test_false seen es since c0 hold hsc, Bool.false_eq_true, if_false]
  unfold leftOf
  have hmem : ∀ x ∈ (Array.filter (fun e => !seen.contains e.born) es).toList, x.born < since := fun x hx => hold x (by simp at hx ⊢; exact hx.1)
  generalize Array.filter (fun e => !seen.contains e.born) es = L at hmem ⊢
  have e1 : L.filter (fun x => decide (x.born < since)) = L := Array.filter_eq_self.2 (fun x hx => by simpa using hmem x (by simpa using hx))
  have e2 : L.filter (fun x => decide (x.born ≥ since)) = #[] := by
    rw [Array.filter_eq_empty_iff]
    intro x hx
    have := hmem x (by simpa using hx)
    simp
    omega
  simp only [e1, e2, Array.append_empty]
  by_cases h0 : L.size = 0
  · left
    have : L = #[] := Array.eq_empty_of_size_eq_zero h0
    subst this
    refine ⟨rfl, ?_⟩
    simp [choose, Sem.run, Question.forced]
  · right
    have hne : L.isEmpty = false := by simp [Array.isEmpty, h0]
    simp only [hne, Bool.false_eq_true, if_false, Array.empty_append, Array.size_map]
    have hch : ∃ (j q : Nat), j < L.size ∧ (choose (Question.mapNext L.size)).run P w = .ok j { w with drawn := q } := by
      by_cases hf : L.size ≤ 1
      · exact ⟨0, w.drawn, by omega, by simp [choose, Sem.run, Question.forced, hf]⟩
      · exact ⟨_, w.drawn + 1, Nat.mod_lt _ (by omega), by
          simp only [choose, Sem.run, Question.forced, decide_eq_true_eq, hf, if_false, Question.cut]
          rfl⟩
    obtain ⟨j, q, hj, hrun⟩ := hch
    refine ⟨j, L[j], q, by simp [hj], ?_⟩
    have hset : ∀ o' : Obj, (setObj r o').run P { w with drawn := q } = .ok () { w with drawn := q, heap := w.heap.setIfInBounds r o' } := fun o' => by
      simp only [setObj, Sem.run, hr]
    simp only [hrun, Array.getElem?_map, Array.getElem?_eq_getElem hj, Option.map_some, Sem.run_bind, hset, Result.andThen]
    rfl

theorem left_push {ms : Array MapEntry} {seen : Array Nat} {clock j : Nat} {e : MapEntry} (hs : Stamped ms clock) (hj : (leftOf ms seen).toList[j]? = some e) : (leftOf ms (seen.push e.born)).toList = (leftOf ms seen).toList.eraseIdx j := by
  have hn : ((leftOf ms seen).toList.map (·.born)).Nodup := by
    have := ((stamped_iff ms clock).1 hs).2.1
    unfold leftOf
    rw [Array.toList_filter]
    exact (List.filter_sublist.map _).nodup this
  have e1 : (leftOf ms (seen.push e.born)).toList = (leftOf ms seen).toList.filter (fun x => !(x.born == e.born)) := by
    unfold leftOf
    simp only [Array.toList_filter, List.filter_filter]
    congr 1
    funext x
    by_cases hx : x.born = e.born <;> simp [hx, Bool.and_comm]
  rw [e1]
  generalize (leftOf ms seen).toList = l at hj hn
  clear e1
  induction l generalizing j with
  | nil => simp at hj
  | cons a l ih =>
    obtain ⟨hna, hnl⟩ := List.nodup_cons.1 hn
    cases j with
    | zero =>
      simp at hj; subst hj
      simp only [List.filter_cons, beq_self_eq_true, Bool.not_true, Bool.false_eq_true, if_false, List.eraseIdx_cons_zero]
      exact List.filter_eq_self.2 fun x hx => by
        have : x.born ≠ a.born := fun q => hna (List.mem_map.2 ⟨x, hx, q⟩)
        simp [this]
    | succ j =>
      have hj' : l[j]? = some e := by simpa using hj
      have hae : a.born ≠ e.born := fun q => hna (List.mem_map.2 ⟨e, List.mem_of_getElem? hj', q.symm⟩)
      have : (!(a.born == e.born)) = true := by simp [hae]
      rw [List.filter_cons, if_pos this, List.eraseIdx_cons_succ, ih hj' hnl]

section
variable {P : Program} {f : FuncId} {n : Nat} {ops : Array Oper} {l : List Oper} {k : List Item} {fr : Fr} {H : List Res} {ρ R : Type} {x : Option ρ} {X : ρ → Option R} {K : R → AV → List Res → Prop} {ty t kt et : TypeId} {d : Nat} {pos : String} {aft : Array Edge}
variable {κ ν : Type} {ek : κ → Value} {ev : ν → Value}

theorem sRange {m : Operand} {b j : Nat} {es : List (κ × ν)} (ht : P.underlying t = some (.map kt et)) (hm : arg fr m = some (.lit (.map (some b)))) (hj : H[j]? = some (.mp ek ev b es)) (hdn : Nat.blt d n = true)
    (h : ∀ r, SimL P f n ops l k ((d, .lit (.pointer (some ⟨r, 0, none⟩))) :: fr) (H.set j (.it ek ev b r es es none)) x X K) : SimL P f n ops (⟨some d, .range t m, ty, pos, aft, none⟩ :: l) k fr H x X K := by
  refine sEff (I := Nat) (av := fun r => .lit (.pointer (some ⟨r, 0, none⟩))) (H' := fun r => H.set j (.it ek ev b r es es none)) (fun o ho hty w0 F0 Z0 w F Z ρ hi hf => ?_) hdn h
  have e1 : ρ m = _ := hf (by simp [Op.operands]) hm
  obtain ⟨F1, ⟨hb, ms, clock, h1, h2, h3⟩, _⟩ := hi.res.at hj
  have s := Step.alloc w (.mapIter (some b) clock #[] clock) (fun _ => False)
  have hbl : b < w.heap.size := (Array.getElem?_eq_some_iff.1 h1).1
  obtain ⟨F', hi', hk⟩ := hi.turn (w' := w.alloc (.mapIter (some b) clock #[] clock)) (r' := .it ek ev b w.heap.size es es none) hj fun F1 ⟨hb, _⟩ _ =>
    ⟨fun c => F1 c ∨ c = w.heap.size, Step.alloc w _ _, ⟨.inl hb, .inr rfl, by omega, ms, clock, #[], (heap_alloc_old w _ hbl).trans h1, h2, h3, heap_alloc_new w _, by rw [leftOf_none]; exact h3, fun p hp => by cases hp⟩, fun c hc => hc.imp id fun e => by subst e; exact ⟨Nat.le_refl _, by simp⟩⟩
  exact ⟨_, _, w.heap.size, F', Z, by simp only [execOp, ho, e1, run_range_map w t kt et b ms clock ht h1, Sem.run_bind, Result.andThen_ok, Sem.run_pure], hi', fun _ x => x, hk, rfl⟩

/-- A step of the range: nothing is left, or one of what is left comes, whichever. -/
theorem sNext {m : Operand} {b r j : Nat} {es left : List (κ × ν)} {cur : Option (κ × ν)} (hm : arg fr m = some (.lit (.pointer (some ⟨r, 0, none⟩)))) (hj : H[j]? = some (.it ek ev b r es left cur)) (hdn : Nat.blt d n = true)
    (h0 : left = [] → SimL P f n ops l k ((d, .tup [Ab false]) :: fr) H x X K)
    (h1 : ∀ (i : Nat) (p : κ × ν), left[i]? = some p → SimL P f n ops l k ((d, .tup [Ab true, .lit (ek p.1), .lit (ev p.2)]) :: fr) (H.set j (.it ek ev b r es (left.eraseIdx i) (some p))) x X K) :
    SimL P f n ops (⟨some d, .next m false, ty, pos, aft, none⟩ :: l) k fr H x X K := by
  refine sEff (I := { o : Option (Nat × (κ × ν)) // match o with | none => left = [] | some (i, p) => left[i]? = some p }) (av := fun ι => match ι.1 with | none => .tup [Ab false] | some (_, p) => .tup [Ab true, .lit (ek p.1), .lit (ev p.2)])
    (H' := fun ι => match ι.1 with | none => H | some (i, p) => H.set j (.it ek ev b r es (left.eraseIdx i) (some p))) (fun o ho hty w0 F0 Z0 w F Z ρ hi hf => ?_) hdn (fun ι => ?_)
  · have e1 : ρ m = _ := hf (by simp [Op.operands]) hm
    obtain ⟨F1, ⟨hb, hr, hne, ms, clock, seen, g1, g2, g3, g4, g5, _⟩, _⟩ := hi.res.at hj
    rcases run_next_at (P := P) w o.type r b clock clock seen ms clock g4 g1 ((stamped_iff ms clock).1 g2).1 (Nat.le_refl _) with ⟨q0, hrun⟩ | ⟨i, e, q, hi1, hrun⟩
    · have hl : left = [] := by
        have := congrArg List.length g5
        simp only [List.length_map, Array.length_toList] at this
        exact List.length_eq_zero_iff.1 (by omega)
      exact ⟨_, w, ⟨none, hl⟩, F, Z, by simp only [execOp, ho, e1, hrun, Sem.run_bind, Result.andThen_ok, Sem.run_pure], hi, fun _ x => x, fun _ _ => rfl, [_], rfl, .cons rfl .nil⟩
    · obtain ⟨p, hp, k1, k2⟩ : ∃ p, left[i]? = some p ∧ e.key = ek p.1 ∧ e.val = ev p.2 := by
        have := congrArg (·[i]?) g5
        simp only [List.getElem?_map, hi1, Option.map_some] at this
        cases hp : left[i]? with
        | none => rw [hp] at this; cases this
        | some p => rw [hp] at this; simp only [Option.map_some, Option.some.injEq, Prod.mk.injEq] at this; exact ⟨p, rfl, this.1, this.2⟩
      have hem : e ∈ ms.toList := by
        have := List.mem_of_getElem? hi1
        unfold leftOf at this
        rw [Array.toList_filter] at this
        exact (List.mem_filter.1 this).1
      obtain ⟨F', hi', hk⟩ := hi.turn (w' := { w with drawn := q, heap := w.heap.setIfInBounds r (.mapIter (some b) clock (seen.push e.born) clock) }) (r' := .it ek ev b r es (left.eraseIdx i) (some p)) hj fun F1 ⟨hb, hr, hne, _⟩ _ =>
        ⟨F1, ⟨rfl, rfl, rfl, run_drawn _ hrun, by simp, fun c _ hc => by
          have : r ≠ c := fun e => hc (e ▸ hr)
          simp [this]⟩, ⟨hb, hr, hne, ms, clock, seen.push e.born, by simpa [Ne.symm hne] using g1, g2, g3, (heap_set g4).1, by rw [left_push g2 hi1, map_erase, g5, map_erase], fun p' hp' => by cases hp'; exact ⟨e, hem, by simp, k1, k2⟩⟩, fun _ x => .inl x⟩
      exact ⟨_, _, ⟨some (i, p), hp⟩, F', Z, by simp only [execOp, ho, e1, hrun, Sem.run_bind, Result.andThen_ok, Sem.run_pure], hi', fun _ x => x, hk, [_, _, _], rfl, .cons rfl (.cons k1 (.cons k2 .nil))⟩
  · obtain ⟨o, ho⟩ := ι
    cases o with
    | none => exact h0 ho
    | some q => exact h1 q.1 q.2 ho

/-- The round's key and value. -/
theorem dEntry {m : Operand} {b r j : Nat} {es left : List (κ × ν)} {p : κ × ν} (hm : arg fr m = some (.lit (.pointer (some ⟨r, 0, none⟩)))) (hj : H[j]? = some (.it ek ev b r es left (some p))) : D P n H (.entry m) ty fr (.tup [.lit (ek p.1), .lit (ev p.2)]) :=
  .of fun q ho hty w Z F ρ hH hf => by
    have e1 : ρ m = _ := hf (by simp [Op.operands]) hm
    obtain ⟨F1, ⟨hb, hr, hne, ms, clock, seen, g1, g2, g3, g4, g5, g6⟩, _⟩ := hH.at hj
    obtain ⟨e, he, hs, k1, k2⟩ := g6 p rfl
    have hfind : ms.find? (·.born == e.born) = some e := by rw [← Array.find?_toList]; exact find_born e ms.toList ((stamped_iff ms clock).1 g2).2.1 he
    exact ⟨.tuple #[ek p.1, ev p.2], (by simp only [execOp, ho, e1, Instr.entry, getObj, Sem.run_bind, Sem.run, g4, g1, Result.andThen, hs, bne_self_eq_false, Bool.false_eq_true, if_false, hfind, k1, k2]; rfl), [_, _], rfl, .cons rfl (.cons rfl .nil)⟩
end
end S
end Go.Proofs.Ytpjhcllohagjoaa
