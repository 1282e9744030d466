/-
  Sim, the seventh text: a region whose order Go leaves open. Quiet operations come first, in whatever order; what writes comes behind them all. Own work; no claim stands here.
-/
import Derived.Test.YtpjhcllohagjoaaSF
namespace Go.Proofs.Ytpjhcllohagjoaa
namespace S
open Go.RowKit
set_option linter.unusedVariables false
set_option linter.unusedSimpArgs false

def edgesOn (o : Oper) : List Nat := (o.after.toList.filter (Region.binds .any)).map (·.on)

/-- What is left of an order: S is done. -/
inductive Lin (ops : Array Oper) : List Nat → List Nat → Prop
  | nil {S : List Nat} : (∀ i, i < ops.size → i ∈ S) → Lin ops S []
  | cons {S is : List Nat} {i : Nat} {o : Oper} : ops[i]? = some o → i ∉ S → (∀ e ∈ edgesOn o, e ∈ S) → Lin ops (i :: S) is → Lin ops S (i :: is)

def backOk (ops : Array Oper) : Bool := (List.range ops.size).all fun i => match ops[i]? with
  | some o => (edgesOn o).all fun e => Nat.blt e i
  | none => true

theorem all_lt (p : Nat → Bool) (n : Nat) : (List.range n).all p = true ↔ ∀ i, i < n → p i = true := by simp [List.all_eq_true]

def cnt (L : Array Bool) : Nat := (L.toList.filter (! ·)).length

theorem cnt_set (L : Array Bool) (i : Nat) (hi : L[i]? = some false) : cnt (L.setIfInBounds i true) + 1 = cnt L := by
  unfold cnt
  rw [Array.toList_setIfInBounds]
  have hi' : L.toList[i]? = some false := by simpa using hi
  generalize L.toList = M at hi'
  clear hi
  induction M generalizing i with
  | nil => simp at hi'
  | cons b M ih =>
    cases i with
    | zero => simp at hi'; subst hi'; simp
    | succ i =>
      simp only [List.set_cons_succ, List.filter_cons]
      have := ih i (by simpa using hi')
      cases b <;> simp at this ⊢ <;> omega

theorem lin_go (ops : Array Oper) (hb : backOk ops = true) : ∀ (fuel t : Nat) (L : Array Bool) (acc S : List Nat), L.size = ops.size → cnt L ≤ fuel → (∀ i, i ∈ S ↔ L[i]? = some true) → ∃ is, Region.linearise.go .any ops fuel t L acc = acc.reverse ++ is ∧ Lin ops S is := by
  intro fuel
  induction fuel with
  | zero =>
    intro t L acc S hL hc hS
    refine ⟨[], by simp [Region.linearise.go], .nil fun i hi => ?_⟩
    rw [hS]
    cases hLi : L[i]? with
    | none => rw [Array.getElem?_eq_none_iff] at hLi; omega
    | some b =>
      cases b with
      | true => rfl
      | false => have := cnt_set L i hLi; omega
  | succ fuel ih =>
    intro t L acc S hL hc hS
    simp only [Region.linearise.go]
    generalize hrs : (List.filter (fun i => !L.getD i true && ((ops[i]?).map (·.after.all fun e => !Region.binds .any e || L.getD e.on false)).getD false) (List.range ops.size)) = rs
    have hmem : ∀ i, i ∈ rs ↔ ∃ o, ops[i]? = some o ∧ L[i]? = some false ∧ ∀ e ∈ edgesOn o, e ∈ S := by
      intro i
      rw [← hrs, List.mem_filter, List.mem_range]
      constructor
      · rintro ⟨hi, h⟩
        have hLi : i < L.size := by omega
        rw [Bool.and_eq_true] at h
        obtain ⟨h1, h2⟩ := h
        have ho : ops[i]? = some ops[i] := by simp [hi]
        rw [ho] at h2
        refine ⟨_, ho, ?_, fun e he => ?_⟩
        · rw [Array.getD_eq_getD_getElem?] at h1
          rw [Array.getElem?_eq_getElem hLi] at h1 ⊢
          simpa using h1
        · simp only [Option.map_some, Option.getD_some, Array.all_eq_true_iff_forall_mem] at h2
          simp only [edgesOn, List.mem_map, List.mem_filter] at he
          obtain ⟨ed, ⟨hed, hbd⟩, rfl⟩ := he
          have := h2 ed (by simpa using hed)
          rw [hbd] at this
          simp at this
          rw [hS]
          cases hx : L[ed.on]? with
          | none => simp [hx] at this
          | some b => simp [hx] at this; rw [this]
      · rintro ⟨o, ho, h1, h2⟩
        have hi : i < ops.size := by
          rcases Nat.lt_or_ge i ops.size with h | h
          · exact h
          · simp [h] at ho
        refine ⟨hi, ?_⟩
        rw [Bool.and_eq_true]
        refine ⟨by simp [Array.getD_eq_getD_getElem?, h1], ?_⟩
        rw [ho]
        simp only [Option.map_some, Option.getD_some, Array.all_eq_true_iff_forall_mem]
        intro ed hed
        by_cases hbd : Region.binds .any ed = true
        · have := h2 ed.on (by simp only [edgesOn, List.mem_map, List.mem_filter]; exact ⟨ed, ⟨by simpa using hed, hbd⟩, rfl⟩)
          rw [hS] at this
          simp [this]
        · simp at hbd; simp [hbd]
    cases hsel : rs[t % rs.length]? with
    | none =>
      refine ⟨[], by simp, .nil ?_⟩
      have hnil : rs = [] := by
        rcases Nat.eq_zero_or_pos rs.length with h | h
        · exact List.length_eq_zero_iff.1 h
        · have := Nat.mod_lt t h
          rw [List.getElem?_eq_none_iff] at hsel; omega
      intro i
      induction i using Nat.strongRecOn with
      | _ i ihi =>
        intro hi
        rw [hS]
        have hLi : i < L.size := by omega
        cases hb' : L[i] with
        | true => rw [Array.getElem?_eq_getElem hLi, hb']
        | false =>
          exfalso
          have ho : ops[i]? = some ops[i] := by simp [hi]
          have : i ∈ rs := (hmem i).2 ⟨_, ho, by rw [Array.getElem?_eq_getElem hLi, hb'], fun e he => ?_⟩
          · rw [hnil] at this; cases this
          · have hbk := (all_lt _ _).1 hb i hi
            rw [ho] at hbk
            have hlt : e < i := by simpa [Nat.blt_eq] using (List.all_eq_true.1 hbk) e he
            exact ihi e hlt (by omega)
    | some i =>
      have hi : i ∈ rs := List.mem_of_getElem? hsel
      obtain ⟨o, ho, hLi, hed⟩ := (hmem i).1 hi
      have hlt : i < L.size := by
        rcases Nat.lt_or_ge i L.size with h | h
        · exact h
        · simp [h] at hLi
      obtain ⟨is, h1, h2⟩ := ih (t / rs.length) (L.setIfInBounds i true) (i :: acc) (i :: S) (by simpa using hL) (by have := cnt_set L i hLi; omega) (fun q => by
        rw [List.mem_cons, hS, Array.getElem?_setIfInBounds]
        by_cases e : i = q
        · subst e; simp [hlt]
        · have : ¬ q = i := fun h => e h.symm
          simp [e, this])
      refine ⟨i :: is, by simp [h1], .cons ho (fun h => ?_) hed h2⟩
      rw [hS, hLi] at h; cases h

theorem lin_schedule {P : Program} (hm : P.follows .mixedOrders = true) (ops : Array Oper) (hb : backOk ops = true) (t : Nat) : Lin ops [] (Region.schedule (P.follows .mixedOrders) ops t) := by
  have : Region.schedule (P.follows .mixedOrders) ops t = Region.linearise .any ops t := by simp [Region.schedule, hm]
  rw [this]
  obtain ⟨is, h1, h2⟩ := lin_go ops hb ops.size t (Array.replicate ops.size false) [] [] (by simp) (by
    unfold cnt
    refine Nat.le_trans (List.length_filter_le _ _) (by simp)) (fun i => by
      simp only [List.not_mem_nil, false_iff, Array.getElem?_replicate]
      split <;> simp)
  simp only [Region.linearise]
  rw [h1]; simpa using h2

/-- What is done is done with all that stands ahead of it. -/
def Closed (ops : Array Oper) (S : List Nat) : Prop := ∀ i ∈ S, ∀ o, ops[i]? = some o → ∀ e ∈ edgesOn o, e ∈ S

/-- All that stands ahead of each operation, as bits. -/
def bef : List Nat → List Oper → List Nat
  | bs, [] => bs
  | bs, o :: l => bef (bs ++ [(edgesOn o).foldl (fun s e => s ||| (1 <<< e) ||| bs.getD e 0) 0]) l

theorem fold_bits (bs : List Nat) (Q : Nat → Prop) : ∀ (es : List Nat) (s : Nat), (∀ j, s.testBit j = true → Q j) → (∀ e ∈ es, Q e ∧ ∀ j, (bs.getD e 0).testBit j = true → Q j) → ∀ j, (es.foldl (fun s e => s ||| (1 <<< e) ||| bs.getD e 0) s).testBit j = true → Q j := by
  intro es
  induction es with
  | nil => intro s h _ j hj; exact h j hj
  | cons e es ih =>
    intro s h he j hj
    refine ih _ ?_ (fun x hx => he x (by simp [hx])) j hj
    intro i hi
    rw [Nat.testBit_or, Nat.testBit_or, Bool.or_eq_true, Bool.or_eq_true] at hi
    rcases hi with (hi | hi) | hi
    · exact h i hi
    · rw [Nat.testBit_shiftLeft] at hi
      simp only [Bool.and_eq_true, decide_eq_true_eq] at hi
      have : i = e := by
        have h1 := hi.2
        have : i - e = 0 := by
          rcases Nat.eq_zero_or_pos (i - e) with h | h
          · exact h
          · rw [Nat.testBit_one_eq_true_iff_self_eq_zero] at h1; exact h1
        omega
      subst this; exact (he i (by simp)).1
    · exact (he e (by simp)).2 i hi

theorem bef_ok (ops : Array Oper) (hb : backOk ops = true) : ∀ (l : List Oper) (bs : List Nat), (∀ k o, l[k]? = some o → ops[bs.length + k]? = some o) → (∀ i o, i < bs.length → ops[i]? = some o → ∀ S, Closed ops S → (∀ e ∈ edgesOn o, e ∈ S) → ∀ j, (bs.getD i 0).testBit j = true → j ∈ S) →
    ∀ i o, i < bs.length + l.length → ops[i]? = some o → ∀ S, Closed ops S → (∀ e ∈ edgesOn o, e ∈ S) → ∀ j, ((bef bs l).getD i 0).testBit j = true → j ∈ S := by
  intro l
  induction l with
  | nil => intro bs _ h i o hi; exact h i o (by simpa using hi)
  | cons o l ih =>
    intro bs hl h
    have ho : ops[bs.length]? = some o := by simpa using hl 0 o rfl
    have := ih (bs ++ [(edgesOn o).foldl (fun s e => s ||| (1 <<< e) ||| bs.getD e 0) 0]) (fun k p hk => by
      have := hl (k + 1) p (by simpa using hk)
      simpa [Nat.add_assoc, Nat.add_comm 1 k] using this) (fun i p hi hp S hS he j hj => by
      rw [List.length_append, List.length_singleton] at hi
      rcases Nat.lt_or_ge i bs.length with hlt | hge
      · refine h i p hlt hp S hS he j ?_
        rw [List.getD_eq_getElem?_getD, List.getElem?_append_left hlt, ← List.getD_eq_getElem?_getD] at hj
        exact hj
      · have : i = bs.length := by omega
        subst this
        rw [ho] at hp; cases hp
        rw [List.getD_eq_getElem?_getD, List.getElem?_append_right (Nat.le_refl _)] at hj
        simp only [Nat.sub_self, List.getElem?_cons_zero, Option.getD_some] at hj
        refine fold_bits bs (fun j => j ∈ S) _ 0 (by simp) (fun e hee => ⟨he e hee, fun j hj => ?_⟩) j hj
        have hlt : e < bs.length := by
          have hbl : bs.length < ops.size := by
            rcases Nat.lt_or_ge bs.length ops.size with h | h
            · exact h
            · simp [h] at ho
          have := (all_lt _ _).1 hb bs.length hbl
          rw [ho] at this
          simpa [Nat.blt_eq] using (List.all_eq_true.1 this) e hee
        have hlo : ∃ p, ops[e]? = some p := ⟨ops[e]'(by
          have hbl : bs.length < ops.size := by
            rcases Nat.lt_or_ge bs.length ops.size with h | h
            · exact h
            · simp [h] at ho
          omega), by simp⟩
        obtain ⟨p, hp⟩ := hlo
        exact h e p hlt hp S hS (fun x hx => hS e (he e hee) p hp x hx) j hj)
    intro i p hi hp
    exact this i p (by simp at hi ⊢; omega) hp

/-- Of some done, all below q: the rest goes on in the text's order. -/
theorem lin_rest {ops : Array Oper} {m : Nat} (hord : ∀ i o, m ≤ i → ops[i]? = some o → ∀ S, Closed ops S → (∀ e ∈ edgesOn o, e ∈ S) → ∀ j, j < i → j ∈ S) : ∀ {S is : List Nat}, Lin ops S is → Closed ops S → ∀ q, m ≤ q → q ≤ ops.size → (∀ j, j < ops.size → (j ∈ S ↔ j < q)) → is = List.range' q (ops.size - q) := by
  intro S is h
  induction h with
  | @nil S hS =>
    intro _ q h1 h2 h3
    have : q = ops.size := by
      rcases Nat.lt_or_ge q ops.size with h | h
      · have := (h3 q h).1 (hS q h); omega
      · omega
    subst this; simp
  | @cons S is i o ho hn hed _ ih =>
    intro hcl q h1 h2 h3
    have hi : i < ops.size := by
      rcases Nat.lt_or_ge i ops.size with h | h
      · exact h
      · simp [h] at ho
    have hiq : ¬ i < q := fun h => hn ((h3 i hi).2 h)
    have hqi : i = q := by
      rcases Nat.lt_or_ge q i with h | h
      · have := hord i o (by omega) ho S hcl hed q h
        have := (h3 q (by omega)).1 this; omega
      · omega
    subst hqi
    have := ih (fun j hj p hp e he => by
      rcases List.mem_cons.1 hj with rfl | hj
      · rw [ho] at hp; cases hp
        exact List.mem_cons_of_mem _ (hed e he)
      · exact List.mem_cons_of_mem _ (hcl j hj p hp e he)) (i + 1) (by omega) (by omega) (fun j hj => by
      rw [List.mem_cons, h3 j hj]; omega)
    rw [this]
    have e : ops.size - i = (ops.size - (i + 1)) + 1 := by omega
    rw [e, List.range'_succ]

def namesOf (ops : Array Oper) (o : Oper) : List Nat := o.dst.toList ++ opTmps o.op ++ match o.guard with
  | some (j, _) => ((ops[j]?).bind (·.dst)).toList
  | none => []

def lateOk (ops : Array Oper) (m : Nat) : Bool := (List.range ops.size).all fun i => Nat.blt i m || (List.range i).all fun j => ((bef [] ops.toList).getD i 0).testBit j

def apartOk (ops : Array Oper) (m : Nat) : Bool := (List.range m).all fun i => match ops[i]? with
  | some o => (List.range i).all fun j => match ops[j]? with
    | some p => match o.dst, p.dst with
      | some d, some e => !(Nat.beq d e) && ((edgesOn o).elem j || (!(namesOf ops o).elem e && !(namesOf ops p).elem d))
      | _, _ => false
    | none => false
  | none => false

section
variable {P : Program} {f : FuncId} {n : Nat} {k : List Item} {fr : Fr} {H : List Res} {ρ R : Type} {x : Option ρ} {X : ρ → Option R} {K : R → AV → List Res → Prop} {ops : Array Oper}

/-- A quiet operation in its place: it runs, or its guard is not met. -/
inductive QOp (P : Program) (n : Nat) (H : List Res) (ops : Array Oper) (fr : Fr) : Oper → AV → Prop
  | r {op : Op} {ty : TypeId} {dst : Option Nat} {pos : String} {aft : Array Edge} {av : AV} : D P n H op ty fr av → QOp P n H ops fr ⟨dst, op, ty, pos, aft, none⟩ av
  | g {op : Op} {ty : TypeId} {dst : Option Nat} {pos : String} {aft : Array Edge} {av : AV} {j dj : Nat} {b t : Bool} {oj : Oper} : ops[j]? = some oj → oj.dst = some dj → look fr dj = some (Ab t) → t = b → Nat.blt dj n = true → D P n H op ty fr av → QOp P n H ops fr ⟨dst, op, ty, pos, aft, some (j, b)⟩ av
  | u {op : Op} {ty : TypeId} {dst : Option Nat} {pos : String} {aft : Array Edge} {j dj : Nat} {b t : Bool} {oj : Oper} : ops[j]? = some oj → oj.dst = some dj → look fr dj = some (Ab t) → t = !b → Nat.blt dj n = true → QOp P n H ops fr ⟨dst, op, ty, pos, aft, some (j, b)⟩ (.lit undef)
  | v {op : Op} {ty : TypeId} {dst : Option Nat} {pos : String} {aft : Array Edge} {j dj : Nat} {b : Bool} {oj : Oper} : ops[j]? = some oj → oj.dst = some dj → look fr dj = some (.lit undef) → Nat.blt dj n = true → QOp P n H ops fr ⟨dst, op, ty, pos, aft, some (j, b)⟩ (.lit undef)

/-- Quiet operations in the text's order, and the frame behind them; l: what is left. -/
inductive QL (P : Program) (n : Nat) (H : List Res) (ops : Array Oper) : Fr → List Oper → Fr → List Oper → Prop
  | n {fr : Fr} {l : List Oper} : QL P n H ops fr l fr l
  | c {fr fr' : Fr} {o : Oper} {l l' : List Oper} {d : Nat} {av : AV} : QOp P n H ops fr o av → o.dst = some d → Nat.blt d n = true → QL P n H ops ((d, av) :: fr) l fr' l' → QL P n H ops fr (o :: l) fr' l'

/-- The same, with an index for each. -/
theorem QL.list {fr' : Fr} {l l' : List Oper} (h : QL P n H ops fr l fr' l') : ∃ qs : List (Nat × AV), fr' = qs.reverse ++ fr ∧ l.drop qs.length = l' ∧ qs.length ≤ l.length ∧ ∀ i d av, qs[i]? = some (d, av) → ∃ o, l[i]? = some o ∧ o.dst = some d ∧ d < n ∧ QOp P n H ops ((qs.take i).reverse ++ fr) o av := by
  induction h with
  | n => exact ⟨[], rfl, rfl, Nat.zero_le _, by simp⟩
  | @c fr fr' o l l' d av hq hd hdn _ ih =>
    obtain ⟨qs, h1, h2, h3, h4⟩ := ih
    refine ⟨(d, av) :: qs, by simp [h1], by simpa using h2, by simpa using h3, fun i d' av' hi => ?_⟩
    cases i with
    | zero =>
      simp at hi
      obtain ⟨rfl, rfl⟩ := hi
      exact ⟨o, rfl, hd, by simpa [Nat.blt_eq] using hdn, by simpa using hq⟩
    | succ i =>
      obtain ⟨o', g1, g2, g3, g4⟩ := h4 i d' av' (by simpa using hi)
      exact ⟨o', by simpa using g1, g2, g3, by simpa using g4⟩

theorem look_append (qs : List (Nat × AV)) (fr : Fr) (t : Nat) (a : AV) (h : look (qs.reverse ++ fr) t = some a) : (∃ j : Nat, qs[j]? = some (t, a)) ∨ (look fr t = some a ∧ ∀ (j d : Nat) (av : AV), qs[j]? = some (d, av) → d ≠ t) := by
  induction hn : qs.length generalizing qs with
  | zero => have := List.length_eq_zero_iff.1 hn; subst this; exact .inr ⟨by simpa using h, by simp⟩
  | succ z ih0 =>
    obtain ⟨qs, q, rfl⟩ : ∃ qs' q, qs = qs' ++ [q] := ⟨qs.dropLast, qs.getLast (by intro e; subst e; cases hn), (List.dropLast_concat_getLast _).symm⟩
    have ih := ih0 qs
    obtain ⟨d, av⟩ := q
    simp only [List.reverse_append, List.reverse_cons, List.reverse_nil, List.nil_append, List.cons_append, look] at h
    by_cases e : d = t
    · subst e; simp at h; subst h
      exact .inl ⟨qs.length, by simp⟩
    · have : (d == t) = false := by simpa using e
      rw [this] at h
      rcases ih (by simpa using h) (by simp at hn; omega) with ⟨j, hj⟩ | ⟨h1, h2⟩
      · refine .inl ⟨j, ?_⟩
        rw [List.getElem?_append_left]; exact hj
        rcases Nat.lt_or_ge j qs.length with h | h
        · exact h
        · simp [h] at hj
      · refine .inr ⟨h1, fun j d' av' hj => ?_⟩
        rw [List.getElem?_append] at hj
        split at hj
        · exact h2 j d' av' hj
        · rename_i hge
          cases hjj : j - qs.length with
          | zero => rw [hjj] at hj; simp at hj; rw [← hj.1]; exact e
          | succ z => rw [hjj] at hj; simp at hj

theorem look_take {qs : List (Nat × AV)} {fr : Fr} {t : Nat} {a : AV} {i : Nat} (h : look ((qs.take i).reverse ++ fr) t = some a) : (∃ j : Nat, j < i ∧ qs[j]? = some (t, a)) ∨ (look fr t = some a ∧ ∀ (j d : Nat) (av : AV), j < i → qs[j]? = some (d, av) → d ≠ t) := by
  rcases look_append _ _ _ _ h with ⟨j, hj⟩ | ⟨h1, h2⟩
  · rw [List.getElem?_take] at hj
    split at hj
    · rename_i hlt; exact .inl ⟨j, hlt, hj⟩
    · cases hj
  · exact .inr ⟨h1, fun j d av hlt hj => h2 j d av (by rw [List.getElem?_take, if_pos hlt]; exact hj)⟩

theorem sDraw {id : Nat} {l l' : List Oper} {fr' : Fr} (m : Nat) (hm : P.follows .mixedOrders = true) (hl : ops.toList = l) (hb : backOk ops = true) (hlate : lateOk ops m = true) (hap : apartOk ops m = true) (hq : QL P n H ops fr l fr' l') (hlen : l'.length + m = l.length)
    (h : SimL P f n ops l' k fr' H x X K) : Sim P f n (.code (.region id ops true) :: k) fr H x X K := by
  obtain ⟨qs, rfl, rfl, hle, hqs⟩ := hq.list
  have hql : qs.length = m := by simp at hlen; omega
  subst hql hl
  intro r hr w0 F0 Z0 w F Z tmps hn hi hf
  refine .regionDraw fun t => ?_
  have hlin := lin_schedule hm ops hb t
  have hord : ∀ i o, qs.length ≤ i → ops[i]? = some o → ∀ S, Closed ops S → (∀ e ∈ edgesOn o, e ∈ S) → ∀ j, j < i → j ∈ S := by
    intro i o h1 h2 S hS he j h3
    have hi' : i < ops.size := by
      rcases Nat.lt_or_ge i ops.size with h | h
      · exact h
      · simp [h] at h2
    have := (all_lt _ _).1 hlate i hi'
    have hnb : Nat.blt i qs.length = false := by
      cases hbb : Nat.blt i qs.length with
      | true => rw [Nat.blt_eq] at hbb; omega
      | false => rfl
    rw [hnb, Bool.false_or] at this
    have := (all_lt _ _).1 this j h3
    exact bef_ok ops hb ops.toList [] (fun k o hk => by simpa using hk) (fun i o hi => by simp at hi) i o (by simpa using hi') h2 S hS he j this
  have hsz : ops.toList.length = ops.size := by simp
  have hap' : ∀ i j o p d e a b, j < i → ops[i]? = some o → ops[j]? = some p → qs[i]? = some (d, a) → qs[j]? = some (e, b) → o.dst = some d → p.dst = some e → d ≠ e ∧ (j ∈ edgesOn o ∨ (e ∉ namesOf ops o ∧ d ∉ namesOf ops p)) := by
    intro i j o p d e a b hji ho hp hqi _ hd he
    have hi' : i < qs.length := by
      rcases Nat.lt_or_ge i qs.length with h | h
      · exact h
      · simp [h] at hqi
    have h1 := (all_lt _ _).1 hap i hi'
    rw [ho] at h1
    have h2 := (all_lt _ _).1 h1 j hji
    rw [hp] at h2
    simp only [hd, he] at h2
    rw [Bool.and_eq_true, Bool.or_eq_true, Bool.and_eq_true] at h2
    refine ⟨fun x => ?_, h2.2.imp (fun x => by simpa using x) fun x => ⟨by simpa using x.1, by simpa using x.2⟩⟩
    have := h2.1
    rw [x] at this; simp at this
  have final : ∀ (Z : Nat → Prop) (w : World) (tmps : Array Value) (S : List Nat), (∀ j, j < qs.length → j ∈ S) → (∀ (i d : Nat) (a : AV), i ∈ S → qs[i]? = some (d, a) → a.p Z w (tmps.getD d undef)) → (∀ (t : Nat) (a : AV), look fr t = some a → (∀ (i d : Nat) (b : AV), i ∈ S → qs[i]? = some (d, b) → d ≠ t) → a.p Z w (tmps.getD t undef)) → FrOk (qs.reverse ++ fr) Z w tmps := by
    intro Z w tmps S hS h1 h2 t a ht
    rcases look_append _ _ _ _ ht with ⟨j, hj⟩ | ⟨g1, g2⟩
    · refine h1 j t a (hS j ?_) hj
      rcases Nat.lt_or_ge j qs.length with h | h
      · exact h
      · simp [h] at hj
    · exact h2 t a g1 fun i d b _ hq => g2 i d b hq
  have qlt : ∀ {i : Nat} {q : Nat × AV}, qs[i]? = some q → i < qs.length := by
    intro i q hj
    rcases Nat.lt_or_ge i qs.length with h | h
    · exact h
    · simp [h] at hj
  -- the state when S is done
  have key : ∀ S is, Lin ops S is → (∀ i ∈ S, i < qs.length) → (∀ i ∈ S, ∀ o, ops[i]? = some o → ∀ e ∈ edgesOn o, e ∈ S) → ∀ (w : World) (Z : Nat → Prop) (tmps : Array Value), tmps.size = n → Inv w0 w F0 Z0 F Z H → (∀ (i d : Nat) (a : AV), i ∈ S → qs[i]? = some (d, a) → a.p Z w (tmps.getD d undef)) → (∀ (t : Nat) (a : AV), look fr t = some a → (∀ (i d : Nat) (b : AV), i ∈ S → qs[i]? = some (d, b) → d ≠ t) → a.p Z w (tmps.getD t undef)) →
      Run P f (.inRegion ops is :: k) tmps w (Done w0 F0 Z0 (K r)) := by
    intro S is hl
    induction hl with
    | @nil S hS =>
      intro hSm _ w Z tmps hn hi h1 h2
      have hm' : ops.size ≤ qs.length := by
        rcases Nat.lt_or_ge qs.length ops.size with h | h
        · have := hSm _ (hS _ h); omega
        · exact h
      have hnil : ops.toList.drop qs.length = [] := by simp; omega
      rw [hnil] at h
      exact h [] rfl r hr w0 F0 Z0 w F Z tmps hn hi (final Z w tmps S (fun j hj => hS j (by have := hle; simp at this; omega)) h1 h2)
    | @cons S is i o ho hnS hed hlin' ih =>
      intro hSm hcl w Z tmps hn hi h1 h2
      rcases Nat.lt_or_ge i qs.length with hlt | hge
      · obtain ⟨⟨d, av⟩, hqi⟩ : ∃ q, qs[i]? = some q := ⟨qs[i], by simp [hlt]⟩
        obtain ⟨o', ho', hd, hdn, hop⟩ := hqs i d av hqi
        have : o' = o := by rw [Array.getElem?_toList, ho] at ho'; exact (Option.some.inj ho').symm
        subst this
        -- a slot that the operation names holds what it should
        have hslot : ∀ t, t ∈ namesOf ops o' → ∀ a, look ((qs.take i).reverse ++ fr) t = some a → a.p Z w (tmps.getD t undef) := by
          intro t ht a hla
          rcases look_take hla with ⟨j, hji, hqj⟩ | ⟨g1, g2⟩
          · obtain ⟨p, hp, hpd, _, _⟩ := hqs j t a hqj
            rw [Array.getElem?_toList] at hp
            rcases (hap' i j o' p d t av a hji ho hp hqi hqj hd hpd).2 with hin | hno
            · exact h1 j t a (hed j hin) hqj
            · exact absurd ht hno.1
          · refine h2 t a g1 fun j e b hjS hqj => ?_
            rcases Nat.lt_trichotomy j i with hlt2 | heq | hgt
            · exact g2 j e b hlt2 hqj
            · subst heq; exact absurd hjS hnS
            · intro het; subst het
              obtain ⟨p, hp, hpd, _, _⟩ := hqs j e b hqj
              rw [Array.getElem?_toList] at hp
              rcases (hap' j i p o' e d b av hgt hp ho hqj hqi hpd hd).2 with hin | hno
              · exact hnS (hcl j hjS p hp i hin)
              · exact hno.2 ht
        have hon : FrOn (opTmps o'.op) ((qs.take i).reverse ++ fr) Z w tmps := fun t ht a ha => hslot t (by unfold namesOf; simp [ht]) a ha
        -- behind the operation
        have next : ∀ v w' Z', Inv w0 w' F0 Z0 F Z' H → (∀ b, Z b → Z' b) → Keep Z w w' → av.p Z' w' v → Run P f (.inRegion ops is :: k) (tmps.setIfInBounds d v) w' (Done w0 F0 Z0 (K r)) := by
          intro v w' Z' hi' hz hk hv
          refine ih (fun j hj => ?_) (fun j hj p hp e he => ?_) w' Z' _ (by simpa using hn) hi' (fun j e a hj hqj => ?_) (fun t a ht hno => ?_)
          · rcases List.mem_cons.1 hj with rfl | hj
            · exact hlt
            · exact hSm j hj
          · rcases List.mem_cons.1 hj with rfl | hj
            · rw [ho] at hp; cases hp
              exact List.mem_cons_of_mem _ (hed e he)
            · exact List.mem_cons_of_mem _ (hcl j hj p hp e he)
          · rw [getD_set _ _ _ _ (by omega)]
            rcases List.mem_cons.1 hj with rfl | hjS
            · rw [hqi] at hqj; cases hqj
              rw [if_pos rfl]; exact hv
            · obtain ⟨p, hp, hpd, _, _⟩ := hqs j e a hqj
              rw [Array.getElem?_toList] at hp
              have hne : j ≠ i := fun x => hnS (x ▸ hjS)
              have hde : d ≠ e := by
                rcases Nat.lt_or_ge j i with h | h
                · exact (hap' i j o' p d e av a h ho hp hqi hqj hd hpd).1
                · exact fun x => (hap' j i p o' e d a av (by omega) hp ho hqj hqi hpd hd).1 x.symm
              rw [if_neg hde]
              exact a.st hz hk (h1 j e a hjS hqj)
          · rw [getD_set _ _ _ _ (by omega), if_neg (hno i d av (List.mem_cons_self ..) hqi)]
            exact a.st hz hk (h2 t a ht fun j e b hj hqj => hno j e b (List.mem_cons_of_mem _ hj) hqj)
        cases hop with
        | r hD => exact does_run (d := d) hd hdn ho (wanted_none rfl) hn hi (hD _ rfl rfl w0 F0 Z0 w F Z tmps hn hi hon) next
        | @g op ty dst pos aft av j dj b t oj hj hdj hl ht hjn hD =>
          have hjn' : dj < tmps.size := by rw [hn]; simpa [Nat.blt_eq] using hjn
          have hy := yield_of hj hdj hjn' (hslot dj (by simp [namesOf, hj, hdj]) _ hl)
          exact does_run (d := d) hd hdn ho (by simp [Region.wanted, hy, ht]) hn hi (hD _ rfl rfl w0 F0 Z0 w F Z tmps hn hi hon) next
        | @u op ty dst pos aft j dj b t oj hj hdj hl ht hjn =>
          have hjn' : dj < tmps.size := by rw [hn]; simpa [Nat.blt_eq] using hjn
          have hy := yield_of hj hdj hjn' (hslot dj (by simp [namesOf, hj, hdj]) _ hl)
          refine .unwanted ho (by subst ht; cases b <;> simp [Region.wanted, hy]) ?_
          rw [show (⟨dst, op, ty, pos, aft, some (j, b)⟩ : Oper).dst = some d from hd]
          exact next undef w Z hi (fun _ x => x) (Keep.refl _ _) rfl
        | @v op ty dst pos aft j dj b oj hj hdj hl hjn =>
          have hjn' : dj < tmps.size := by rw [hn]; simpa [Nat.blt_eq] using hjn
          have hy := yield_none hj hdj hjn' (hslot dj (by simp [namesOf, hj, hdj]) _ hl)
          refine .unwanted ho (by simp [Region.wanted, hy]) ?_
          rw [show (⟨dst, op, ty, pos, aft, some (j, b)⟩ : Oper).dst = some d from hd]
          exact next undef w Z hi (fun _ x => x) (Keep.refl _ _) rfl
      · have hi' : i < ops.size := by
          rcases Nat.lt_or_ge i ops.size with h | h
          · exact h
          · simp [h] at ho
        have hall : ∀ j, j < qs.length → j ∈ S := fun j hj => hord i o hge ho S hcl hed j (by omega)
        have hrest := lin_rest hord (Lin.cons ho hnS hed hlin') hcl qs.length (Nat.le_refl _) (by simpa using hle) (fun j _ => ⟨hSm j, hall j⟩)
        rw [hrest]
        refine h _ ?_ r hr w0 F0 Z0 w F Z tmps hn hi (final Z w tmps S hall h1 h2)
        apply List.ext_getElem?
        intro q
        simp only [List.getElem?_map, List.getElem?_drop, Array.getElem?_toList, List.getElem?_range']
        by_cases hq : q < ops.size - qs.length
        · have : qs.length + q < ops.size := by omega
          simp [hq, this]
        · have : ¬ qs.length + q < ops.size := by omega
          simp [hq, this]
  exact key [] _ hlin (by simp) (by simp) _ Z tmps hn (hi.quiet (Step.drew w _) (fun _ x => x) (fun _ x => .inl x)) (by simp) (fun t a ht _ => AV.st a (w := w) (w' := { w with drawn := w.drawn + 1 }) (fun _ x => x) (fun _ _ => rfl) (hf t a ht))

theorem D.more {op : Op} {ty : TypeId} {av : AV} {r : Res} (h : D P n H op ty fr av) : D P n (r :: H) op ty fr av :=
  fun o ho hty w0 F0 Z0 w F Z tmps hn hi hf => h o ho hty w0 F0 Z0 w F Z tmps hn (hi.less fun ⟨F1, F2, _, h2, _, h4⟩ => h2.wide h4) hf

/-- The same, with one new variable (its memory is asked for at whatever time) behind what is quiet. -/
theorem sDrawA {id : Nat} {l l' : List Oper} {fr' : Fr} {da : Nat} {ta ty : TypeId} {zs : List Value} {az : List AV} {pos : String} {aft : Array Edge} (m : Nat) (hm : P.follows .mixedOrders = true) (hl : ops.toList = l) (hb : backOk ops = true) (hlate : lateOk ops (m + 1) = true) (hap : apartOk ops (m + 1) = true) (hq : QL P n H ops fr l fr' (⟨some da, .alloc ta, ty, pos, aft, none⟩ :: l')) (hlen : l'.length + (m + 1) = l.length)
    (hz : ∀ w, (Instr.alloc ta true (.tuple #[])).run P w = .ok (.pointer (some ⟨w.heap.size, 0, none⟩)) (w.alloc (.cells zs.toArray ta))) (ha : ∀ Z w, AllP Z w az zs) (hdn : Nat.blt da n = true)
    (h : ∀ b, SimL P f n ops l' k ((da, .lit (.pointer (some ⟨b, 0, none⟩))) :: fr') (.box b az :: H) x X K) : Sim P f n (.code (.region id ops true) :: k) fr H x X K := by
  obtain ⟨qs, rfl, hdrop, hle, hqs⟩ := hq.list
  have hql : qs.length = m := by
    have := congrArg List.length hdrop
    simp at this; omega
  have hl' : l' = l.drop (qs.length + 1) := by
    rw [← List.drop_drop, hdrop]; rfl
  have hda : l[qs.length]? = some ⟨some da, .alloc ta, ty, pos, aft, none⟩ := by
    have := congrArg (·[0]?) hdrop
    simpa using this
  subst hql hl hl'
  have hda' : ops[qs.length]? = some ⟨some da, .alloc ta, ty, pos, aft, none⟩ := by simpa using hda
  have hdn' : da < n := by simpa [Nat.blt_eq] using hdn
  intro r hr w0 F0 Z0 w F Z tmps hn hi hf
  refine .regionDraw fun t => ?_
  have hlin := lin_schedule hm ops hb t
  have hord : ∀ i o, qs.length + 1 ≤ i → ops[i]? = some o → ∀ S, Closed ops S → (∀ e ∈ edgesOn o, e ∈ S) → ∀ j, j < i → j ∈ S := by
    intro i o h1 h2 S hS he j h3
    have hi' : i < ops.size := by
      rcases Nat.lt_or_ge i ops.size with h | h
      · exact h
      · simp [h] at h2
    have := (all_lt _ _).1 hlate i hi'
    have hnb : Nat.blt i (qs.length + 1) = false := by
      cases hbb : Nat.blt i (qs.length + 1) with
      | true => rw [Nat.blt_eq] at hbb; omega
      | false => rfl
    rw [hnb, Bool.false_or] at this
    have := (all_lt _ _).1 this j h3
    exact bef_ok ops hb ops.toList [] (fun k o hk => by simpa using hk) (fun i o hi => by simp at hi) i o (by simpa using hi') h2 S hS he j this
  have hmsz : qs.length < ops.size := by
    rcases Nat.lt_or_ge qs.length ops.size with h | h
    · exact h
    · simp [h] at hda'
  have hap0 : ∀ i j o p d e, j < i → i < qs.length + 1 → ops[i]? = some o → ops[j]? = some p → o.dst = some d → p.dst = some e → d ≠ e ∧ (j ∈ edgesOn o ∨ (e ∉ namesOf ops o ∧ d ∉ namesOf ops p)) := by
    intro i j o p d e hji hi' ho hp hd he
    have h1 := (all_lt _ _).1 hap i hi'
    rw [ho] at h1
    have h2 := (all_lt _ _).1 h1 j hji
    rw [hp] at h2
    simp only [hd, he] at h2
    rw [Bool.and_eq_true, Bool.or_eq_true, Bool.and_eq_true] at h2
    refine ⟨fun x => ?_, h2.2.imp (fun x => by simpa using x) fun x => ⟨by simpa using x.1, by simpa using x.2⟩⟩
    have := h2.1
    rw [x] at this; simp at this
  have qlt : ∀ {i : Nat} {q : Nat × AV}, qs[i]? = some q → i < qs.length := by
    intro i q hj
    rcases Nat.lt_or_ge i qs.length with h | h
    · exact h
    · simp [h] at hj
  have hap' : ∀ i j o p d e a b, j < i → ops[i]? = some o → ops[j]? = some p → qs[i]? = some (d, a) → qs[j]? = some (e, b) → o.dst = some d → p.dst = some e → d ≠ e ∧ (j ∈ edgesOn o ∨ (e ∉ namesOf ops o ∧ d ∉ namesOf ops p)) :=
    fun i j o p d e a b hji ho hp hqi _ hd he => hap0 i j o p d e hji (by have := qlt hqi; omega) ho hp hd he
  -- the new variable's slot is apart from all that is quiet
  have hapm : ∀ j p e b, ops[j]? = some p → qs[j]? = some (e, b) → p.dst = some e → da ≠ e ∧ (j ∈ aft.toList.filterMap (fun ed => if Region.binds .any ed then some ed.on else none) ∨ da ∉ namesOf ops p) := by
    intro j p e b hp hqj he
    obtain ⟨h1, h2⟩ := hap0 qs.length j _ p da e (qlt hqj) (by omega) hda' hp rfl he
    refine ⟨h1, ?_⟩
    rcases h2 with h2 | h2
    · refine .inl ?_
      simp only [edgesOn, List.mem_map, List.mem_filter] at h2
      obtain ⟨ed, ⟨h3, h4⟩, rfl⟩ := h2
      exact List.mem_filterMap.2 ⟨ed, h3, by rw [if_pos h4]⟩
    · exact .inr h2.2
  have final : ∀ (Z : Nat → Prop) (w : World) (tmps : Array Value) (S : List Nat) (b : Nat), (∀ j, j < qs.length + 1 → j ∈ S) → tmps.getD da undef = .pointer (some ⟨b, 0, none⟩) → (∀ (i d : Nat) (a : AV), i ∈ S → qs[i]? = some (d, a) → a.p Z w (tmps.getD d undef)) → (∀ (t : Nat) (a : AV), look fr t = some a → t ≠ da → (∀ (i d : Nat) (b : AV), i ∈ S → qs[i]? = some (d, b) → d ≠ t) → a.p Z w (tmps.getD t undef)) → FrOk ((da, .lit (.pointer (some ⟨b, 0, none⟩))) :: (qs.reverse ++ fr)) Z w tmps := by
    intro Z w tmps S b hS hda h1 h2 t a ht
    simp only [look] at ht
    by_cases e : da = t
    · subst e; simp at ht; subst ht; exact hda
    · have : (da == t) = false := by simpa using e
      rw [this] at ht
      rcases look_append _ _ _ _ (by simpa using ht) with ⟨j, hj⟩ | ⟨g1, g2⟩
      · exact h1 j t a (hS j (by have := qlt hj; omega)) hj
      · exact h2 t a g1 (fun x => e x.symm) fun i d b _ hq => g2 i d b hq
  -- the state when S is done
  have key : ∀ S is, Lin ops S is → (∀ i ∈ S, i < qs.length + 1) → (∀ i ∈ S, ∀ o, ops[i]? = some o → ∀ e ∈ edgesOn o, e ∈ S) → ∀ (w : World) (F Z : Nat → Prop) (tmps : Array Value), tmps.size = n → ((qs.length ∉ S ∧ Inv w0 w F0 Z0 F Z H) ∨ (qs.length ∈ S ∧ ∃ b, tmps.getD da undef = .pointer (some ⟨b, 0, none⟩) ∧ Inv w0 w F0 Z0 F Z (.box b az :: H))) → (∀ (i d : Nat) (a : AV), i ∈ S → qs[i]? = some (d, a) → a.p Z w (tmps.getD d undef)) → (∀ (t : Nat) (a : AV), look fr t = some a → (qs.length ∈ S → t ≠ da) → (∀ (i d : Nat) (b : AV), i ∈ S → qs[i]? = some (d, b) → d ≠ t) → a.p Z w (tmps.getD t undef)) →
      Run P f (.inRegion ops is :: k) tmps w (Done w0 F0 Z0 (K r)) := by
    intro S is hl
    induction hl with
    | @nil S hS =>
      intro hSm _ w F Z tmps hn hi h1 h2
      have hm' : ops.size ≤ qs.length + 1 := by
        rcases Nat.lt_or_ge (qs.length + 1) ops.size with h | h
        · have := hSm _ (hS _ h); omega
        · exact h
      have hnil : ops.toList.drop (qs.length + 1) = [] := by simp; omega
      rcases hi with ⟨hno, _⟩ | ⟨hin, b, hb', hi⟩
      · exact absurd (hS _ hmsz) hno
      rw [hnil] at h
      exact h b [] rfl r hr w0 F0 Z0 w F Z tmps hn hi (final Z w tmps S b (fun j hj => hS j (by omega)) hb' h1 fun t a ht ht' => h2 t a ht fun _ => ht')
    | @cons S is i o ho hnS hed hlin' ih =>
      intro hSm hcl w F Z tmps hn hi h1 h2
      rcases Nat.lt_trichotomy i qs.length with hlt | heq | hge
      · obtain ⟨⟨d, av⟩, hqi⟩ : ∃ q, qs[i]? = some q := ⟨qs[i], by simp [hlt]⟩
        obtain ⟨o', ho', hd, hdn2, hop⟩ := hqs i d av hqi
        have : o' = o := by rw [Array.getElem?_toList, ho] at ho'; exact (Option.some.inj ho').symm
        subst this
        have hdne := (hapm i o' d av ho hqi hd).1
        -- a slot that the operation names holds what it should
        have hslot : ∀ t, t ∈ namesOf ops o' → ∀ a, look ((qs.take i).reverse ++ fr) t = some a → a.p Z w (tmps.getD t undef) := by
          intro t ht a hla
          rcases look_take hla with ⟨j, hji, hqj⟩ | ⟨g1, g2⟩
          · obtain ⟨p, hp, hpd, _, _⟩ := hqs j t a hqj
            rw [Array.getElem?_toList] at hp
            rcases (hap' i j o' p d t av a hji ho hp hqi hqj hd hpd).2 with hin | hno
            · exact h1 j t a (hed j hin) hqj
            · exact absurd ht hno.1
          · refine h2 t a g1 (fun hmS => ?_) fun j e b hjS hqj => ?_
            · -- the new variable's slot is not named
              intro hta; subst hta
              obtain ⟨_, h4⟩ := hapm i o' d av ho hqi hd
              rcases h4 with h4 | h4
              · -- then the operation stood ahead of the new variable
                obtain ⟨ed, h5, h6⟩ := List.mem_filterMap.1 h4
                split at h6
                · rename_i hbd
                  simp at h6
                  exact hnS (hcl qs.length hmS _ hda' i (by simp only [edgesOn, List.mem_map, List.mem_filter]; exact ⟨ed, ⟨h5, hbd⟩, h6⟩))
                · cases h6
              · exact h4 ht
            · rcases Nat.lt_trichotomy j i with hlt2 | heq | hgt
              · exact g2 j e b hlt2 hqj
              · subst heq; exact absurd hjS hnS
              · intro het; subst het
                obtain ⟨p, hp, hpd, _, _⟩ := hqs j e b hqj
                rw [Array.getElem?_toList] at hp
                rcases (hap' j i p o' e d b av hgt hp ho hqj hqi hpd hd).2 with hin | hno
                · exact hnS (hcl j hjS p hp i hin)
                · exact hno.2 ht
        have hon : FrOn (opTmps o'.op) ((qs.take i).reverse ++ fr) Z w tmps := fun t ht a ha => hslot t (by unfold namesOf; simp [ht]) a ha
        -- behind the operation
        have next : ∀ v w' Z', ((qs.length ∉ S ∧ Inv w0 w' F0 Z0 F Z' H) ∨ (qs.length ∈ S ∧ ∃ b, tmps.getD da undef = .pointer (some ⟨b, 0, none⟩) ∧ Inv w0 w' F0 Z0 F Z' (.box b az :: H))) → (∀ b, Z b → Z' b) → Keep Z w w' → av.p Z' w' v → Run P f (.inRegion ops is :: k) (tmps.setIfInBounds d v) w' (Done w0 F0 Z0 (K r)) := by
          intro v w' Z' hi' hz hk hv
          refine ih (fun j hj => ?_) (fun j hj p hp e he => ?_) w' F Z' _ (by simpa using hn) ?_ (fun j e a hj hqj => ?_) (fun t a ht hta hno => ?_)
          · rcases List.mem_cons.1 hj with rfl | hj
            · omega
            · exact hSm j hj
          · rcases List.mem_cons.1 hj with rfl | hj
            · rw [ho] at hp; cases hp
              exact List.mem_cons_of_mem _ (hed e he)
            · exact List.mem_cons_of_mem _ (hcl j hj p hp e he)
          · rcases hi' with ⟨hno, hi'⟩ | ⟨hin, b, hb', hi'⟩
            · exact .inl ⟨fun hx => by rcases List.mem_cons.1 hx with hx | hx; omega; exact hno hx, hi'⟩
            · exact .inr ⟨List.mem_cons_of_mem _ hin, b, by rw [getD_set _ _ _ _ (by omega), if_neg (fun x => hdne x.symm)]; exact hb', hi'⟩
          · rw [getD_set _ _ _ _ (by omega)]
            rcases List.mem_cons.1 hj with rfl | hjS
            · rw [hqi] at hqj; cases hqj
              rw [if_pos rfl]; exact hv
            · obtain ⟨p, hp, hpd, _, _⟩ := hqs j e a hqj
              rw [Array.getElem?_toList] at hp
              have hne : j ≠ i := fun x => hnS (x ▸ hjS)
              have hde : d ≠ e := by
                rcases Nat.lt_or_ge j i with h | h
                · exact (hap' i j o' p d e av a h ho hp hqi hqj hd hpd).1
                · exact fun x => (hap' j i p o' e d a av (by omega) hp ho hqj hqi hpd hd).1 x.symm
              rw [if_neg hde]
              exact a.st hz hk (h1 j e a hjS hqj)
          · rw [getD_set _ _ _ _ (by omega), if_neg (hno i d av (List.mem_cons_self ..) hqi)]
            exact a.st hz hk (h2 t a ht (fun hx => hta (List.mem_cons_of_mem _ hx)) fun j e b hj hqj => hno j e b (List.mem_cons_of_mem _ hj) hqj)
        -- quiet in either state
        have quiet : ∀ (op : Op) (ty : TypeId), o'.op = op → o'.type = ty → D P n H op ty ((qs.take i).reverse ++ fr) av → Region.wanted o' (yielded ops tmps) = true → Run P f (.inRegion ops (i :: is) :: k) tmps w (Done w0 F0 Z0 (K r)) := by
          intro op ty e1 e2 hD hw
          subst e1 e2
          rcases hi with ⟨hno, hi⟩ | ⟨hin, b, hb', hi⟩
          · exact does_run (d := d) hd hdn2 ho hw hn hi (hD o' rfl rfl w0 F0 Z0 w F Z tmps hn hi hon) fun v w' Z' hi' => next v w' Z' (.inl ⟨hno, hi'⟩)
          · exact does_run (d := d) hd hdn2 ho hw hn hi (hD.more o' rfl rfl w0 F0 Z0 w F Z tmps hn hi hon) fun v w' Z' hi' => next v w' Z' (.inr ⟨hin, b, hb', hi'⟩)
        have quiet0 : Region.wanted o' (yielded ops tmps) = false → av = .lit undef → Run P f (.inRegion ops (i :: is) :: k) tmps w (Done w0 F0 Z0 (K r)) := by
          intro hw hav
          refine .unwanted ho hw ?_
          rw [hd]
          exact next undef w Z hi (fun _ x => x) (Keep.refl _ _) (by rw [hav]; rfl)
        cases hop with
        | r hD => exact quiet _ _ rfl rfl hD (wanted_none rfl)
        | @g op ty dst pos aft av j dj b t oj hj hdj hl ht hjn hD =>
          have hjn' : dj < tmps.size := by rw [hn]; simpa [Nat.blt_eq] using hjn
          have hy := yield_of hj hdj hjn' (hslot dj (by simp [namesOf, hj, hdj]) _ hl)
          exact quiet _ _ rfl rfl hD (by simp [Region.wanted, hy, ht])
        | @u op ty dst pos aft j dj b t oj hj hdj hl ht hjn =>
          have hjn' : dj < tmps.size := by rw [hn]; simpa [Nat.blt_eq] using hjn
          have hy := yield_of hj hdj hjn' (hslot dj (by simp [namesOf, hj, hdj]) _ hl)
          exact quiet0 (by subst ht; cases b <;> simp [Region.wanted, hy]) rfl
        | @v op ty dst pos aft j dj b oj hj hdj hl hjn =>
          have hjn' : dj < tmps.size := by rw [hn]; simpa [Nat.blt_eq] using hjn
          have hy := yield_none hj hdj hjn' (hslot dj (by simp [namesOf, hj, hdj]) _ hl)
          exact quiet0 (by simp [Region.wanted, hy]) rfl
      · subst heq
        rw [hda'] at ho; cases ho
        have hi : Inv w0 w F0 Z0 F Z H := by
          rcases hi with ⟨_, hi⟩ | ⟨hin, _⟩
          · exact hi
          · exact absurd hin hnS
        have s := Step.alloc w (.cells zs.toArray ta) (fun _ => False)
        refine .value hda' (wanted_none rfl) (v := .pointer (some ⟨w.heap.size, 0, none⟩)) (w' := w.alloc (.cells zs.toArray ta)) (by simp [execOp, hz w, Sem.run_bind]) ?_
        show Run P f _ (tmps.setIfInBounds da _) _ _
        refine ih (fun j hj => ?_) (fun j hj p hp e he => ?_) _ (fun b => F b ∨ b = w.heap.size) Z _ (by simpa using hn) (.inr ⟨List.mem_cons_self .., w.heap.size, by rw [getD_set _ _ _ _ (by omega), if_pos rfl], hi.push _ (.box w.heap.size az) ⟨rfl, zs, ta, alloc_cells w zs ta, ha _ _⟩⟩) (fun j e a hj hqj => ?_) (fun t a ht hta hno => ?_)
        · rcases List.mem_cons.1 hj with rfl | hj
          · omega
          · exact hSm j hj
        · rcases List.mem_cons.1 hj with rfl | hj
          · rw [hda'] at hp; cases hp
            exact List.mem_cons_of_mem _ (hed e he)
          · exact List.mem_cons_of_mem _ (hcl j hj p hp e he)
        · rcases List.mem_cons.1 hj with rfl | hjS
          · have := qlt hqj; omega
          · obtain ⟨p, hp, hpd, _, _⟩ := hqs j e a hqj
            rw [Array.getElem?_toList] at hp
            rw [getD_set _ _ _ _ (by omega), if_neg (hapm j p e a hp hqj hpd).1]
            exact a.st (fun _ x => x) (s.keep' hi) (h1 j e a hjS hqj)
        · have : t ≠ da := hta (List.mem_cons_self ..)
          rw [getD_set _ _ _ _ (by omega), if_neg (fun x => this x.symm)]
          exact a.st (fun _ x => x) (s.keep' hi) (h2 t a ht (fun hx => absurd hx hnS) fun j e b hj hqj => hno j e b (List.mem_cons_of_mem _ hj) hqj)
      · have hi' : i < ops.size := by
          rcases Nat.lt_or_ge i ops.size with h | h
          · exact h
          · simp [h] at ho
        have hall : ∀ j, j < qs.length + 1 → j ∈ S := fun j hj => hord i o (by omega) ho S hcl hed j (by omega)
        have hrest := lin_rest hord (Lin.cons ho hnS hed hlin') hcl (qs.length + 1) (Nat.le_refl _) (by omega) (fun j _ => ⟨hSm j, hall j⟩)
        rw [hrest]
        rcases hi with ⟨hno, _⟩ | ⟨hin, b, hb', hi⟩
        · exact absurd (hall _ (by omega)) hno
        refine h b _ ?_ r hr w0 F0 Z0 w F Z tmps hn hi (final Z w tmps S b hall hb' h1 fun t a ht ht' => h2 t a ht fun _ => ht')
        apply List.ext_getElem?
        intro q
        simp only [List.getElem?_map, List.getElem?_drop, Array.getElem?_toList, List.getElem?_range']
        by_cases hq : q < ops.size - (qs.length + 1)
        · have : qs.length + 1 + q < ops.size := by omega
          simp [hq, this]
        · have : ¬ qs.length + 1 + q < ops.size := by omega
          simp [hq, this]
  exact key [] _ hlin (by simp) (by simp) _ F Z tmps hn (.inl ⟨by simp, hi.quiet (Step.drew w _) (fun _ x => x) (fun _ x => .inl x)⟩) (by simp) (fun t a ht _ _ => AV.st a (w := w) (w' := { w with drawn := w.drawn + 1 }) (fun _ x => x) (fun _ _ => rfl) (hf t a ht))

def storeOk (ops : Array Oper) (m jx dx : Nat) : Bool := match ops[jx]?, ops[m + 1]? with
  | some p, some o => (match p.dst with | some e => Nat.beq e dx | none => false) && (edgesOn o).elem jx && (edgesOn o).elem m && Nat.blt jx m
  | _, _ => false

/-- The same, with one new variable and the store of its first value behind what is quiet. -/
theorem sDrawB {id : Nat} {l l' : List Oper} {fr' : Fr} {da : Nat} {ta ty : TypeId} {zs : List Value} {az : List AV} {pos pos2 : String} {aft aft2 : Array Edge} {tt ty2 : TypeId} {dx sz : Nat} {ax : AV} {bs : List AV} (m jx : Nat) (hm : P.follows .mixedOrders = true) (hl : ops.toList = l) (hb : backOk ops = true) (hlate : lateOk ops (m + 2) = true) (hap : apartOk ops (m + 1) = true) (hst : storeOk ops m jx dx = true) (hq : QL P n H ops fr l fr' (⟨some da, .alloc ta, ty, pos, aft, none⟩ :: ⟨none, .store tt (.tmp da) (.tmp dx), ty2, pos2, aft2, none⟩ :: l')) (hlen : l'.length + (m + 2) = l.length)
    (hz : ∀ w, (Instr.alloc ta true (.tuple #[])).run P w = .ok (.pointer (some ⟨w.heap.size, 0, none⟩)) (w.alloc (.cells zs.toArray ta))) (ha : ∀ Z w, AllP Z w az zs) (hdn : Nat.blt da n = true)
    (hss : SizeIs P tt sz) (hxx : look fr' dx = some ax) (hcx : CellsOf ax bs) (hox : OneL bs) (hbl : bs.length = sz) (hsl : sz ≤ az.length)
    (h : ∀ b, SimL P f n ops l' k ((da, .lit (.pointer (some ⟨b, 0, none⟩))) :: fr') (.box b (splice az 0 bs) :: H) x X K) : Sim P f n (.code (.region id ops true) :: k) fr H x X K := by
  obtain ⟨qs, rfl, hdrop, hle, hqs⟩ := hq.list
  have hql : qs.length = m := by
    have := congrArg List.length hdrop
    simp at this; omega
  have hl' : l' = l.drop (qs.length + 2) := by
    rw [← List.drop_drop, hdrop]; rfl
  have hsto : l[qs.length + 1]? = some ⟨none, .store tt (.tmp da) (.tmp dx), ty2, pos2, aft2, none⟩ := by
    have := congrArg (·[1]?) hdrop
    simpa using this
  have hda : l[qs.length]? = some ⟨some da, .alloc ta, ty, pos, aft, none⟩ := by
    have := congrArg (·[0]?) hdrop
    simpa using this
  subst hql hl hl'
  have hda' : ops[qs.length]? = some ⟨some da, .alloc ta, ty, pos, aft, none⟩ := by simpa using hda
  have hsto' : ops[qs.length + 1]? = some ⟨none, .store tt (.tmp da) (.tmp dx), ty2, pos2, aft2, none⟩ := by simpa using hsto
  have hdn' : da < n := by simpa [Nat.blt_eq] using hdn
  intro r hr w0 F0 Z0 w F Z tmps hn hi hf
  refine .regionDraw fun t => ?_
  have hlin := lin_schedule hm ops hb t
  have hord : ∀ i o, qs.length + 2 ≤ i → ops[i]? = some o → ∀ S, Closed ops S → (∀ e ∈ edgesOn o, e ∈ S) → ∀ j, j < i → j ∈ S := by
    intro i o h1 h2 S hS he j h3
    have hi' : i < ops.size := by
      rcases Nat.lt_or_ge i ops.size with h | h
      · exact h
      · simp [h] at h2
    have := (all_lt _ _).1 hlate i hi'
    have hnb : Nat.blt i (qs.length + 2) = false := by
      cases hbb : Nat.blt i (qs.length + 2) with
      | true => rw [Nat.blt_eq] at hbb; omega
      | false => rfl
    rw [hnb, Bool.false_or] at this
    have := (all_lt _ _).1 this j h3
    exact bef_ok ops hb ops.toList [] (fun k o hk => by simpa using hk) (fun i o hi => by simp at hi) i o (by simpa using hi') h2 S hS he j this
  have hmsz : qs.length + 1 < ops.size := by
    rcases Nat.lt_or_ge (qs.length + 1) ops.size with h | h
    · exact h
    · simp [h] at hsto'
  have hap0 : ∀ i j o p d e, j < i → i < qs.length + 1 → ops[i]? = some o → ops[j]? = some p → o.dst = some d → p.dst = some e → d ≠ e ∧ (j ∈ edgesOn o ∨ (e ∉ namesOf ops o ∧ d ∉ namesOf ops p)) := by
    intro i j o p d e hji hi' ho hp hd he
    have h1 := (all_lt _ _).1 hap i hi'
    rw [ho] at h1
    have h2 := (all_lt _ _).1 h1 j hji
    rw [hp] at h2
    simp only [hd, he] at h2
    rw [Bool.and_eq_true, Bool.or_eq_true, Bool.and_eq_true] at h2
    refine ⟨fun x => ?_, h2.2.imp (fun x => by simpa using x) fun x => ⟨by simpa using x.1, by simpa using x.2⟩⟩
    have := h2.1
    rw [x] at this; simp at this
  have qlt : ∀ {i : Nat} {q : Nat × AV}, qs[i]? = some q → i < qs.length := by
    intro i q hj
    rcases Nat.lt_or_ge i qs.length with h | h
    · exact h
    · simp [h] at hj
  have hap' : ∀ i j o p d e a b, j < i → ops[i]? = some o → ops[j]? = some p → qs[i]? = some (d, a) → qs[j]? = some (e, b) → o.dst = some d → p.dst = some e → d ≠ e ∧ (j ∈ edgesOn o ∨ (e ∉ namesOf ops o ∧ d ∉ namesOf ops p)) :=
    fun i j o p d e a b hji ho hp hqi _ hd he => hap0 i j o p d e hji (by have := qlt hqi; omega) ho hp hd he
  -- the new variable's slot is apart from all that is quiet
  have hapm : ∀ j p e b, ops[j]? = some p → qs[j]? = some (e, b) → p.dst = some e → da ≠ e ∧ (j ∈ aft.toList.filterMap (fun ed => if Region.binds .any ed then some ed.on else none) ∨ da ∉ namesOf ops p) := by
    intro j p e b hp hqj he
    obtain ⟨h1, h2⟩ := hap0 qs.length j _ p da e (qlt hqj) (by omega) hda' hp rfl he
    refine ⟨h1, ?_⟩
    rcases h2 with h2 | h2
    · refine .inl ?_
      simp only [edgesOn, List.mem_map, List.mem_filter] at h2
      obtain ⟨ed, ⟨h3, h4⟩, rfl⟩ := h2
      exact List.mem_filterMap.2 ⟨ed, h3, by rw [if_pos h4]⟩
    · exact .inr h2.2
  -- the stored value's slot
  obtain ⟨hjlt, hjm, hjx, hjd⟩ : jx < qs.length ∧ qs.length ∈ edgesOn ⟨none, .store tt (.tmp da) (.tmp dx), ty2, pos2, aft2, none⟩ ∧ jx ∈ edgesOn ⟨none, .store tt (.tmp da) (.tmp dx), ty2, pos2, aft2, none⟩ ∧ qs[jx]? = some (dx, ax) := by
    unfold storeOk at hst
    rw [hsto'] at hst
    cases hp : ops[jx]? with
    | none => rw [hp] at hst; simp at hst
    | some p =>
      rw [hp] at hst
      cases hpd : p.dst with
      | none => simp [hpd] at hst
      | some e =>
        simp only [hpd, Bool.and_eq_true, Nat.beq_eq, Nat.blt_eq] at hst
        obtain ⟨⟨⟨rfl, h1⟩, h2⟩, h3⟩ := hst
        refine ⟨h3, by simpa using h2, by simpa using h1, ?_⟩
        obtain ⟨⟨d, a⟩, hqj⟩ : ∃ q, qs[jx]? = some q := ⟨qs[jx], by simp [h3]⟩
        obtain ⟨p', hp', hd', _, _⟩ := hqs jx d a hqj
        rw [Array.getElem?_toList, hp] at hp'
        cases hp'
        rw [hpd] at hd'; cases hd'
        rw [hqj]
        rcases look_append _ _ _ _ hxx with ⟨j, hj⟩ | ⟨_, g2⟩
        · obtain ⟨p2, hp2, hd2, _, _⟩ := hqs j e ax hj
          rw [Array.getElem?_toList] at hp2
          rcases Nat.lt_trichotomy j jx with hlt | heq | hgt
          · exact absurd rfl (hap' jx j p p2 e e a ax hlt hp hp2 hqj hj hpd hd2).1
          · subst heq; rw [hqj] at hj; exact hj
          · exact absurd rfl (hap' j jx p2 p e e ax a hgt hp2 hp hj hqj hd2 hpd).1
        · exact absurd rfl (g2 jx e a hqj)
  have hdax : da ≠ dx := by
    obtain ⟨p, hp, hpd, _, _⟩ := hqs jx dx ax hjd
    rw [Array.getElem?_toList] at hp
    exact (hapm jx p dx ax hp hjd hpd).1
  have final : ∀ (Z : Nat → Prop) (w : World) (tmps : Array Value) (S : List Nat) (b : Nat), (∀ j, j < qs.length + 2 → j ∈ S) → tmps.getD da undef = .pointer (some ⟨b, 0, none⟩) → (∀ (i d : Nat) (a : AV), i ∈ S → qs[i]? = some (d, a) → a.p Z w (tmps.getD d undef)) → (∀ (t : Nat) (a : AV), look fr t = some a → t ≠ da → (∀ (i d : Nat) (b : AV), i ∈ S → qs[i]? = some (d, b) → d ≠ t) → a.p Z w (tmps.getD t undef)) → FrOk ((da, .lit (.pointer (some ⟨b, 0, none⟩))) :: (qs.reverse ++ fr)) Z w tmps := by
    intro Z w tmps S b hS hda h1 h2 t a ht
    simp only [look] at ht
    by_cases e : da = t
    · subst e; simp at ht; subst ht; exact hda
    · have : (da == t) = false := by simpa using e
      rw [this] at ht
      rcases look_append _ _ _ _ (by simpa using ht) with ⟨j, hj⟩ | ⟨g1, g2⟩
      · exact h1 j t a (hS j (by have := qlt hj; omega)) hj
      · exact h2 t a g1 (fun x => e x.symm) fun i d b _ hq => g2 i d b hq
  -- the state when S is done
  have key : ∀ S is, Lin ops S is → (∀ i ∈ S, i < qs.length + 2) → (∀ i ∈ S, ∀ o, ops[i]? = some o → ∀ e ∈ edgesOn o, e ∈ S) → ∀ (w : World) (F Z : Nat → Prop) (tmps : Array Value), tmps.size = n → ((qs.length ∉ S ∧ Inv w0 w F0 Z0 F Z H) ∨ (qs.length ∈ S ∧ ∃ b, tmps.getD da undef = .pointer (some ⟨b, 0, none⟩) ∧ ((qs.length + 1 ∉ S ∧ Inv w0 w F0 Z0 F Z (.box b az :: H)) ∨ (qs.length + 1 ∈ S ∧ Inv w0 w F0 Z0 F Z (.box b (splice az 0 bs) :: H))))) → (∀ (i d : Nat) (a : AV), i ∈ S → qs[i]? = some (d, a) → a.p Z w (tmps.getD d undef)) → (∀ (t : Nat) (a : AV), look fr t = some a → (qs.length ∈ S → t ≠ da) → (∀ (i d : Nat) (b : AV), i ∈ S → qs[i]? = some (d, b) → d ≠ t) → a.p Z w (tmps.getD t undef)) →
      Run P f (.inRegion ops is :: k) tmps w (Done w0 F0 Z0 (K r)) := by
    intro S is hl
    induction hl with
    | @nil S hS =>
      intro hSm _ w F Z tmps hn hi h1 h2
      have hm' : ops.size ≤ qs.length + 2 := by
        rcases Nat.lt_or_ge (qs.length + 2) ops.size with h | h
        · have := hSm _ (hS _ h); omega
        · exact h
      have hnil : ops.toList.drop (qs.length + 2) = [] := by simp; omega
      rcases hi with ⟨hno, _⟩ | ⟨hin, b, hb', ⟨hno, _⟩ | ⟨_, hi⟩⟩
      · exact absurd (hS _ (by omega)) hno
      · exact absurd (hS _ hmsz) hno
      rw [hnil] at h
      exact h b [] rfl r hr w0 F0 Z0 w F Z tmps hn hi (final Z w tmps S b (fun j hj => hS j (by omega)) hb' h1 fun t a ht ht' => h2 t a ht fun _ => ht')
    | @cons S is i o ho hnS hed hlin' ih =>
      intro hSm hcl w F Z tmps hn hi h1 h2
      rcases Nat.lt_trichotomy i qs.length with hlt | heq | hge
      · obtain ⟨⟨d, av⟩, hqi⟩ : ∃ q, qs[i]? = some q := ⟨qs[i], by simp [hlt]⟩
        obtain ⟨o', ho', hd, hdn2, hop⟩ := hqs i d av hqi
        have : o' = o := by rw [Array.getElem?_toList, ho] at ho'; exact (Option.some.inj ho').symm
        subst this
        have hdne := (hapm i o' d av ho hqi hd).1
        -- a slot that the operation names holds what it should
        have hslot : ∀ t, t ∈ namesOf ops o' → ∀ a, look ((qs.take i).reverse ++ fr) t = some a → a.p Z w (tmps.getD t undef) := by
          intro t ht a hla
          rcases look_take hla with ⟨j, hji, hqj⟩ | ⟨g1, g2⟩
          · obtain ⟨p, hp, hpd, _, _⟩ := hqs j t a hqj
            rw [Array.getElem?_toList] at hp
            rcases (hap' i j o' p d t av a hji ho hp hqi hqj hd hpd).2 with hin | hno
            · exact h1 j t a (hed j hin) hqj
            · exact absurd ht hno.1
          · refine h2 t a g1 (fun hmS => ?_) fun j e b hjS hqj => ?_
            · -- the new variable's slot is not named
              intro hta; subst hta
              obtain ⟨_, h4⟩ := hapm i o' d av ho hqi hd
              rcases h4 with h4 | h4
              · -- then the operation stood ahead of the new variable
                obtain ⟨ed, h5, h6⟩ := List.mem_filterMap.1 h4
                split at h6
                · rename_i hbd
                  simp at h6
                  exact hnS (hcl qs.length hmS _ hda' i (by simp only [edgesOn, List.mem_map, List.mem_filter]; exact ⟨ed, ⟨h5, hbd⟩, h6⟩))
                · cases h6
              · exact h4 ht
            · rcases Nat.lt_trichotomy j i with hlt2 | heq | hgt
              · exact g2 j e b hlt2 hqj
              · subst heq; exact absurd hjS hnS
              · intro het; subst het
                obtain ⟨p, hp, hpd, _, _⟩ := hqs j e b hqj
                rw [Array.getElem?_toList] at hp
                rcases (hap' j i p o' e d b av hgt hp ho hqj hqi hpd hd).2 with hin | hno
                · exact hnS (hcl j hjS p hp i hin)
                · exact hno.2 ht
        have hon : FrOn (opTmps o'.op) ((qs.take i).reverse ++ fr) Z w tmps := fun t ht a ha => hslot t (by unfold namesOf; simp [ht]) a ha
        -- behind the operation
        have next : ∀ v w' Z', ((qs.length ∉ S ∧ Inv w0 w' F0 Z0 F Z' H) ∨ (qs.length ∈ S ∧ ∃ b, tmps.getD da undef = .pointer (some ⟨b, 0, none⟩) ∧ ((qs.length + 1 ∉ S ∧ Inv w0 w' F0 Z0 F Z' (.box b az :: H)) ∨ (qs.length + 1 ∈ S ∧ Inv w0 w' F0 Z0 F Z' (.box b (splice az 0 bs) :: H))))) → (∀ b, Z b → Z' b) → Keep Z w w' → av.p Z' w' v → Run P f (.inRegion ops is :: k) (tmps.setIfInBounds d v) w' (Done w0 F0 Z0 (K r)) := by
          intro v w' Z' hi' hz hk hv
          refine ih (fun j hj => ?_) (fun j hj p hp e he => ?_) w' F Z' _ (by simpa using hn) ?_ (fun j e a hj hqj => ?_) (fun t a ht hta hno => ?_)
          · rcases List.mem_cons.1 hj with rfl | hj
            · omega
            · exact hSm j hj
          · rcases List.mem_cons.1 hj with rfl | hj
            · rw [ho] at hp; cases hp
              exact List.mem_cons_of_mem _ (hed e he)
            · exact List.mem_cons_of_mem _ (hcl j hj p hp e he)
          · rcases hi' with ⟨hno, hi'⟩ | ⟨hin, b, hb', hi'⟩
            · exact .inl ⟨fun hx => by rcases List.mem_cons.1 hx with hx | hx; omega; exact hno hx, hi'⟩
            · refine .inr ⟨List.mem_cons_of_mem _ hin, b, by rw [getD_set _ _ _ _ (by omega), if_neg (fun x => hdne x.symm)]; exact hb', ?_⟩
              rcases hi' with ⟨hno, hi'⟩ | ⟨hin2, hi'⟩
              · exact .inl ⟨fun hx => by rcases List.mem_cons.1 hx with hx | hx; omega; exact hno hx, hi'⟩
              · exact .inr ⟨List.mem_cons_of_mem _ hin2, hi'⟩
          · rw [getD_set _ _ _ _ (by omega)]
            rcases List.mem_cons.1 hj with rfl | hjS
            · rw [hqi] at hqj; cases hqj
              rw [if_pos rfl]; exact hv
            · obtain ⟨p, hp, hpd, _, _⟩ := hqs j e a hqj
              rw [Array.getElem?_toList] at hp
              have hne : j ≠ i := fun x => hnS (x ▸ hjS)
              have hde : d ≠ e := by
                rcases Nat.lt_or_ge j i with h | h
                · exact (hap' i j o' p d e av a h ho hp hqi hqj hd hpd).1
                · exact fun x => (hap' j i p o' e d a av (by omega) hp ho hqj hqi hpd hd).1 x.symm
              rw [if_neg hde]
              exact a.st hz hk (h1 j e a hjS hqj)
          · rw [getD_set _ _ _ _ (by omega), if_neg (hno i d av (List.mem_cons_self ..) hqi)]
            exact a.st hz hk (h2 t a ht (fun hx => hta (List.mem_cons_of_mem _ hx)) fun j e b hj hqj => hno j e b (List.mem_cons_of_mem _ hj) hqj)
        -- quiet in either state
        have quiet : ∀ (op : Op) (ty : TypeId), o'.op = op → o'.type = ty → D P n H op ty ((qs.take i).reverse ++ fr) av → Region.wanted o' (yielded ops tmps) = true → Run P f (.inRegion ops (i :: is) :: k) tmps w (Done w0 F0 Z0 (K r)) := by
          intro op ty e1 e2 hD hw
          subst e1 e2
          rcases hi with ⟨hno, hi⟩ | ⟨hin, b, hb', ⟨hno, hi⟩ | ⟨hin2, hi⟩⟩
          · exact does_run (d := d) hd hdn2 ho hw hn hi (hD o' rfl rfl w0 F0 Z0 w F Z tmps hn hi hon) fun v w' Z' hi' => next v w' Z' (.inl ⟨hno, hi'⟩)
          · exact does_run (d := d) hd hdn2 ho hw hn hi (hD.more o' rfl rfl w0 F0 Z0 w F Z tmps hn hi hon) fun v w' Z' hi' => next v w' Z' (.inr ⟨hin, b, hb', .inl ⟨hno, hi'⟩⟩)
          · exact does_run (d := d) hd hdn2 ho hw hn hi (hD.more o' rfl rfl w0 F0 Z0 w F Z tmps hn hi hon) fun v w' Z' hi' => next v w' Z' (.inr ⟨hin, b, hb', .inr ⟨hin2, hi'⟩⟩)
        have quiet0 : Region.wanted o' (yielded ops tmps) = false → av = .lit undef → Run P f (.inRegion ops (i :: is) :: k) tmps w (Done w0 F0 Z0 (K r)) := by
          intro hw hav
          refine .unwanted ho hw ?_
          rw [hd]
          exact next undef w Z hi (fun _ x => x) (Keep.refl _ _) (by rw [hav]; rfl)
        cases hop with
        | r hD => exact quiet _ _ rfl rfl hD (wanted_none rfl)
        | @g op ty dst pos aft av j dj b t oj hj hdj hl ht hjn hD =>
          have hjn' : dj < tmps.size := by rw [hn]; simpa [Nat.blt_eq] using hjn
          have hy := yield_of hj hdj hjn' (hslot dj (by simp [namesOf, hj, hdj]) _ hl)
          exact quiet _ _ rfl rfl hD (by simp [Region.wanted, hy, ht])
        | @u op ty dst pos aft j dj b t oj hj hdj hl ht hjn =>
          have hjn' : dj < tmps.size := by rw [hn]; simpa [Nat.blt_eq] using hjn
          have hy := yield_of hj hdj hjn' (hslot dj (by simp [namesOf, hj, hdj]) _ hl)
          exact quiet0 (by subst ht; cases b <;> simp [Region.wanted, hy]) rfl
        | @v op ty dst pos aft j dj b oj hj hdj hl hjn =>
          have hjn' : dj < tmps.size := by rw [hn]; simpa [Nat.blt_eq] using hjn
          have hy := yield_none hj hdj hjn' (hslot dj (by simp [namesOf, hj, hdj]) _ hl)
          exact quiet0 (by simp [Region.wanted, hy]) rfl
      · subst heq
        rw [hda'] at ho; cases ho
        have hi : Inv w0 w F0 Z0 F Z H := by
          rcases hi with ⟨_, hi⟩ | ⟨hin, _⟩
          · exact hi
          · exact absurd hin hnS
        have s := Step.alloc w (.cells zs.toArray ta) (fun _ => False)
        refine .value hda' (wanted_none rfl) (v := .pointer (some ⟨w.heap.size, 0, none⟩)) (w' := w.alloc (.cells zs.toArray ta)) (by simp [execOp, hz w, Sem.run_bind]) ?_
        show Run P f _ (tmps.setIfInBounds da _) _ _
        refine ih (fun j hj => ?_) (fun j hj p hp e he => ?_) _ (fun b => F b ∨ b = w.heap.size) Z _ (by simpa using hn) (.inr ⟨List.mem_cons_self .., w.heap.size, by rw [getD_set _ _ _ _ (by omega), if_pos rfl], .inl ⟨fun hx => by
            rcases List.mem_cons.1 hx with hx | hx
            · omega
            · exact hnS (hcl _ hx _ hsto' _ hjm), hi.push _ (.box w.heap.size az) ⟨rfl, zs, ta, alloc_cells w zs ta, ha _ _⟩⟩⟩) (fun j e a hj hqj => ?_) (fun t a ht hta hno => ?_)
        · rcases List.mem_cons.1 hj with rfl | hj
          · omega
          · exact hSm j hj
        · rcases List.mem_cons.1 hj with rfl | hj
          · rw [hda'] at hp; cases hp
            exact List.mem_cons_of_mem _ (hed e he)
          · exact List.mem_cons_of_mem _ (hcl j hj p hp e he)
        · rcases List.mem_cons.1 hj with rfl | hjS
          · have := qlt hqj; omega
          · obtain ⟨p, hp, hpd, _, _⟩ := hqs j e a hqj
            rw [Array.getElem?_toList] at hp
            rw [getD_set _ _ _ _ (by omega), if_neg (hapm j p e a hp hqj hpd).1]
            exact a.st (fun _ x => x) (s.keep' hi) (h1 j e a hjS hqj)
        · have : t ≠ da := hta (List.mem_cons_self ..)
          rw [getD_set _ _ _ _ (by omega), if_neg (fun x => this x.symm)]
          exact a.st (fun _ x => x) (s.keep' hi) (h2 t a ht (fun hx => absurd hx hnS) fun j e b hj hqj => hno j e b (List.mem_cons_of_mem _ hj) hqj)
      · rcases Nat.lt_or_eq_of_le (Nat.succ_le_of_lt hge) with hge | heq
        case inr =>
          have heq : i = qs.length + 1 := heq.symm
          subst heq
          rw [hsto'] at ho; cases ho
          have hmS : qs.length ∈ S := hed _ hjm
          have hjS : jx ∈ S := hed _ hjx
          rcases hi with ⟨hno, _⟩ | ⟨_, b, hb', ⟨_, hi⟩ | ⟨hin, _⟩⟩
          · exact absurd hmS hno
          · have hxv := h1 jx dx ax hjS hjd
            have hbe : (da == dx) = false := by simpa using hdax
            obtain ⟨w', F', Z', hrun, hi', hz, hk⟩ := stB_op (P := P) (fr := [(da, .lit (.pointer (some ⟨b, 0, none⟩))), (dx, ax)]) (H := .box b az :: H) (j := 0) (o := 0) (y := .tmp da) (v := .tmp dx) hss (by simp [arg, look]) rfl (by simp only [arg, look, hbe]; simp) hcx hox hbl (by omega) ⟨none, .store tt (.tmp da) (.tmp dx), ty2, pos2, aft2, none⟩ rfl w0 F0 Z0 w F Z (⟨tmps, []⟩ : Act).eval hi (fun {u a} hm hx => arg_ok (op := .store tt (.tmp da) (.tmp dx)) (fr := [(da, .lit (.pointer (some ⟨b, 0, none⟩))), (dx, ax)]) (fun t ht a hl => by
              simp only [look] at hl
              by_cases e : da = t
              · subst e; simp at hl; subst hl; exact hb'
              · have e1 : (da == t) = false := by simpa using e
                rw [e1] at hl
                by_cases e2 : dx = t
                · subst e2; simp at hl; subst hl; exact hxv
                · have e3 : (dx == t) = false := by simpa using e2
                  simp [e3] at hl) hx hm)
            refine .skipped hsto' (wanted_none rfl) hrun ?_
            show Run P f _ tmps _ _
            refine ih (fun j hj => ?_) (fun j hj p hp e he => ?_) w' F' Z' tmps hn (.inr ⟨List.mem_cons_of_mem _ hmS, b, hb', .inr ⟨List.mem_cons_self .., hi'⟩⟩) (fun j e a hj hqj => ?_) (fun t a ht hta hno => ?_)
            · rcases List.mem_cons.1 hj with rfl | hj
              · omega
              · exact hSm j hj
            · rcases List.mem_cons.1 hj with rfl | hj
              · rw [hsto'] at hp; cases hp
                exact List.mem_cons_of_mem _ (hed e he)
              · exact List.mem_cons_of_mem _ (hcl j hj p hp e he)
            · rcases List.mem_cons.1 hj with rfl | hjS
              · have := qlt hqj; omega
              · exact a.st hz hk (h1 j e a hjS hqj)
            · exact a.st hz hk (h2 t a ht (fun hx => hta (List.mem_cons_of_mem _ hx)) fun j e b hj hqj => hno j e b (List.mem_cons_of_mem _ hj) hqj)
          · exact absurd hin hnS
        have hi' : i < ops.size := by
          rcases Nat.lt_or_ge i ops.size with h | h
          · exact h
          · simp [h] at ho
        have hall : ∀ j, j < qs.length + 2 → j ∈ S := fun j hj => hord i o (by omega) ho S hcl hed j (by omega)
        have hrest := lin_rest hord (Lin.cons ho hnS hed hlin') hcl (qs.length + 2) (Nat.le_refl _) (by omega) (fun j _ => ⟨hSm j, hall j⟩)
        rw [hrest]
        rcases hi with ⟨hno, _⟩ | ⟨hin, b, hb', ⟨hno, _⟩ | ⟨_, hi⟩⟩
        · exact absurd (hall _ (by omega)) hno
        · exact absurd (hall _ (by omega)) hno
        refine h b _ ?_ r hr w0 F0 Z0 w F Z tmps hn hi (final Z w tmps S b hall hb' h1 fun t a ht ht' => h2 t a ht fun _ => ht')
        apply List.ext_getElem?
        intro q
        simp only [List.getElem?_map, List.getElem?_drop, Array.getElem?_toList, List.getElem?_range']
        by_cases hq : q < ops.size - (qs.length + 2)
        · have : qs.length + 2 + q < ops.size := by omega
          simp [hq, this]
        · have : ¬ qs.length + 2 + q < ops.size := by omega
          simp [hq, this]
  exact key [] _ hlin (by simp) (by simp) _ F Z tmps hn (.inl ⟨by simp, hi.quiet (Step.drew w _) (fun _ x => x) (fun _ x => .inl x)⟩) (by simp) (fun t a ht _ _ => AV.st a (w := w) (w' := { w with drawn := w.drawn + 1 }) (fun _ x => x) (fun _ _ => rfl) (hf t a ht))
end
end S
end Go.Proofs.Ytpjhcllohagjoaa
