/-
  Sim, the eleventh text: a region whose order is open, in which quiet operations run at whatever time, between those that make or write memory. Own work; no claim stands here.
-/
import Derived.Test.YtpjhcllohagjoaaSL
namespace Go.Proofs.Ytpjhcllohagjoaa
namespace S
open Go.RowKit
set_option linter.unusedVariables false
set_option linter.unusedSimpArgs false

theorem look_app (a b : Fr) (t : Nat) : look (a ++ b) t = match look a t with | some v => some v | none => look b t := by
  induction a with
  | nil => rfl
  | cons p a ih =>
    obtain ⟨u, v⟩ := p
    simp only [List.cons_append, look]
    cases h : u == t <;> simp [ih]

def frL (un : List Nat) (fr : Fr) : Fr := fr.filter fun p => !un.elem p.1
theorem look_frL (un : List Nat) (fr : Fr) (t : Nat) : look (frL un fr) t = if un.elem t = true then none else look fr t := by
  unfold frL
  induction fr with
  | nil => simp [look]
  | cons p fr ih =>
    obtain ⟨u, v⟩ := p
    simp only [List.filter_cons]
    by_cases e : u = t
    · subst e
      cases h : un.elem u
      · simp [look]
      · simp only [Bool.not_true, Bool.false_eq_true, if_false]
        rw [ih, if_pos h]; simp
    · have hb : (u == t) = false := by simpa using e
      split
      · simp only [look, hb, cond_false, ih]
      · simp only [look, hb, cond_false, ih]

abbrev Qs := List (Nat × Nat × AV)
def qat : Qs → Nat → Option (Nat × AV)
  | [], _ => none
  | q :: qs, i => bif q.1 == i then some q.2 else qat qs i
theorem qat_mem {qs : Qs} {i : Nat} {p : Nat × AV} (h : qat qs i = some p) : (i, p) ∈ qs := by
  induction qs with
  | nil => simp [qat] at h
  | cons q qs ih =>
    simp only [qat] at h
    cases e : q.1 == i
    · rw [e] at h; exact List.mem_cons_of_mem _ (ih h)
    · rw [e] at h
      simp at h e
      subst h e
      exact List.mem_cons_self ..

def Avl (qs : Qs) (S : List Nat) (t : Nat) : Prop := ∀ q ∈ qs, q.2.1 = t → q.1 ∈ S

def bitsOf (ops : Array Oper) (i : Nat) : Nat := (bef [] ops.toList).getD i 0
theorem bits_in {ops : Array Oper} (hb : backOk ops = true) {S : List Nat} (hS : Closed ops S) {i j : Nat} {o : Oper} (ho : ops[i]? = some o) (he : ∀ e ∈ edgesOn o, e ∈ S) (hj : (bitsOf ops i).testBit j = true) : j ∈ S := by
  have hi : i < ops.size := by
    rcases Nat.lt_or_ge i ops.size with h | h
    · exact h
    · simp [h] at ho
  exact bef_ok ops hb ops.toList [] (fun k o hk => by simpa using hk) (fun i o hi => by simp at hi) i o (by simpa using hi) ho S hS he j hj

/-- A slot that an operation reads. -/
def reads (ops : Array Oper) (o : Oper) : List Nat := opTmps o.op ++ match o.guard with
  | some (j, _) => ((ops[j]?).bind (·.dst)).toList
  | none => []

def keyOf (o : Oper) : Option Nat × List Nat := (o.dst, opTmps o.op)
/-- What is checked once: each operation is quiet or stands in ns; quiet ones write slots of their own, and what reads them comes behind them; no two operations are alike. -/
def mOk (ops : Array Oper) (ids : List (Nat × Nat)) (ns : List Nat) : Bool :=
  ((List.range ops.size).all fun i => ns.elem i || ids.any fun q => q.1 == i) &&
  (ids.all fun q => !ns.elem q.1 && ids.all fun p => (p.1 == q.1) == (p.2 == q.2)) &&
  (ids.all fun p => match ops[p.1]? with
    | some o => ids.all fun q => !(reads ops o).elem q.2 || (!(p.1 == q.1) && (bitsOf ops p.1).testBit q.1)
    | none => false) &&
  ((List.range ops.size).all fun i => (List.range i).all fun j => match ops[i]?, ops[j]? with
    | some o, some p => !(keyOf o == keyOf p)
    | _, _ => true)

/-- All orders of the operations of ns. -/
def extsE (ops : Array Oper) (bs ns : List Nat) : Nat → List Nat → List (List Nat)
  | m, S => if ns.all (fun i => S.elem i) then [[]] else match m with
    | 0 => []
    | m + 1 => ns.flatMap fun i => if !S.elem i && ns.all (fun j => !(bs.getD i 0).testBit j || S.elem j) then (extsE ops bs ns m (i :: S)).map (i :: ·) else []

theorem Closed.add {ops : Array Oper} {S : List Nat} {i : Nat} {o : Oper} (h : Closed ops S) (ho : ops[i]? = some o) (he : ∀ e ∈ edgesOn o, e ∈ S) : Closed ops (i :: S) := by
  intro j hj p hp e hee
  rcases List.mem_cons.1 hj with rfl | hj
  · rw [ho] at hp; cases hp
    exact List.mem_cons_of_mem _ (he e hee)
  · exact List.mem_cons_of_mem _ (h j hj p hp e hee)

theorem lin_extsE {ops : Array Oper} (hb : backOk ops = true) {ns S is : List Nat} (hns : ∀ i ∈ ns, i < ops.size) (h : Lin ops S is) : Closed ops S → ∀ m S', (∀ j ∈ ns, j ∈ S' ↔ j ∈ S) → (ns.filter fun j => !S'.elem j).length ≤ m → (is.filter fun i => ns.elem i) ∈ extsE ops (bef [] ops.toList) ns m S' := by
  induction h with
  | @nil S h =>
    intro _ m S' hS' _
    unfold extsE
    have hall : ns.all (fun i => S'.elem i) = true := by
      rw [List.all_eq_true]
      intro i hi
      simpa using (hS' i hi).2 (h i (hns i hi))
    rw [if_pos hall]; simp
  | @cons S is i o ho hn he _ ih =>
    intro hcl m S' hS' hm
    have hcl' := hcl.add ho he
    cases hi : ns.elem i with
    | false =>
      have hi' : i ∉ ns := by simpa using hi
      simp only [List.filter_cons, hi, Bool.false_eq_true, if_false]
      refine ih hcl' m S' (fun j hj => ?_) hm
      rw [hS' j hj, List.mem_cons]
      exact ⟨.inr, fun h => h.resolve_left fun e => hi' (e ▸ hj)⟩
    | true =>
      have hi' : i ∈ ns := by simpa using hi
      simp only [List.filter_cons, hi, if_true]
      have hnS' : i ∉ S' := fun h => hn ((hS' i hi').1 h)
      have hlt := filter_less S' i hnS' ns hi'
      unfold extsE
      rw [if_neg]
      · cases m with
        | zero => omega
        | succ m =>
          simp only [List.mem_flatMap]
          refine ⟨i, hi', ?_⟩
          have hc : (!S'.elem i && ns.all (fun j => !((bef [] ops.toList).getD i 0).testBit j || S'.elem j)) = true := by
            rw [Bool.and_eq_true, List.all_eq_true]
            refine ⟨by simpa using hnS', fun j hj => ?_⟩
            cases hbit : ((bef [] ops.toList).getD i 0).testBit j with
            | false => rfl
            | true =>
              have := bits_in hb hcl ho he (j := j) hbit
              simpa using (hS' j hj).2 this
          rw [if_pos hc, List.mem_map]
          refine ⟨_, ih hcl' m (i :: S') (fun j hj => ?_) (by omega), rfl⟩
          rw [List.mem_cons, List.mem_cons, hS' j hj]
      · intro h
        rw [List.all_eq_true] at h
        have := h i hi'
        exact hnS' (by simpa using this)

section
variable {P : Program} {f : FuncId} {n : Nat} {ops : Array Oper} {k : List Item} {fr : Fr} {H : List Res} {ρ R : Type} {x : Option ρ} {X : ρ → Option R} {K : R → AV → List Res → Prop}

/-- The region under way: dn is done of what makes or writes (the last one first), es is to come, in that order; quiet operations run in between; fe: facts that are new. -/
def SimM (P : Program) (f : FuncId) (n : Nat) (ops : Array Oper) (k : List Item) (qs : Qs) (fr0 : Fr) (ns dn es : List Nat) (fe : Fr) (H : List Res) {ρ R : Type} (x : Option ρ) (X : ρ → Option R) (K : R → AV → List Res → Prop) : Prop :=
  ∀ S is, Lin ops S is → Closed ops S → (∀ i ∈ dn, i ∈ S) → (∀ q ∈ qs, q.1 ∉ S → look fe q.2.1 = none) → (is.filter fun i => ns.elem i) = es → ∀ r, x.bind X = some r → ∀ (w0 : World) (F0 Z0 : Nat → Prop) (w : World) (F Z : Nat → Prop) (tmps : Array Value), tmps.size = n → Inv w0 w F0 Z0 F Z H →
    (∀ t a, look (fe ++ (qs.map (·.2) ++ fr0)) t = some a → Avl qs S t → a.p Z w (tmps.getD t undef)) → Run P f (.inRegion ops is :: k) tmps w (Done w0 F0 Z0 (K r))

/-- Quiet operations that may still run, each in its place. -/
inductive QP (P : Program) (n : Nat) (H : List Res) (ops : Array Oper) (fr : Fr) (qs : Qs) : List Nat → Prop
  | n : QP P n H ops fr qs []
  | c {i d : Nat} {is : List Nat} {o : Oper} {av : AV} : ops[i]? = some o → qat qs i = some (d, av) → o.dst = some d → Nat.blt d n = true → QOp P n H ops fr o av → QP P n H ops fr qs is → QP P n H ops fr qs (i :: is)

theorem QP.get {qs : Qs} {is : List Nat} (h : QP P n H ops fr qs is) : ∀ i ∈ is, ∃ d o av, ops[i]? = some o ∧ qat qs i = some (d, av) ∧ o.dst = some d ∧ d < n ∧ QOp P n H ops fr o av := by
  induction h with
  | n => intro i hi; cases hi
  | c h1 h2 h3 h4 h5 _ ih =>
    intro i hi
    rcases List.mem_cons.1 hi with rfl | hi
    · exact ⟨_, _, _, h1, h2, h3, by simpa [Nat.blt_eq] using h4, h5⟩
    · exact ih i hi

/-- What may still run of the quiet ones stands in pend. -/
def pendOk (ops : Array Oper) (ids : List (Nat × Nat)) (dn pend : List Nat) : Bool := ids.all fun q => pend.elem q.1 || dn.any fun j => (bitsOf ops j).testBit q.1

theorem qs_uniq {qs : Qs} {ns : List Nat} (hm : mOk ops (qs.map fun q => (q.1, q.2.1)) ns = true) {p q : Nat × Nat × AV} (hp : p ∈ qs) (hq : q ∈ qs) (h : p.2.1 = q.2.1) : p.1 = q.1 := by
  simp only [mOk, Bool.and_eq_true] at hm
  have h2 := List.all_eq_true.1 hm.1.1.2 (q.1, q.2.1) (List.mem_map.2 ⟨q, hq, rfl⟩)
  rw [Bool.and_eq_true] at h2
  have h3 := List.all_eq_true.1 h2.2 (p.1, p.2.1) (List.mem_map.2 ⟨p, hp, rfl⟩)
  rw [beq_iff_eq] at h3
  simp only [h, beq_self_eq_true] at h3
  simpa using h3
theorem qs_uniq' {qs : Qs} {ns : List Nat} (hm : mOk ops (qs.map fun q => (q.1, q.2.1)) ns = true) {p q : Nat × Nat × AV} (hp : p ∈ qs) (hq : q ∈ qs) (h : p.1 = q.1) : p.2.1 = q.2.1 := by
  simp only [mOk, Bool.and_eq_true] at hm
  have h2 := List.all_eq_true.1 hm.1.1.2 (q.1, q.2.1) (List.mem_map.2 ⟨q, hq, rfl⟩)
  rw [Bool.and_eq_true] at h2
  have h3 := List.all_eq_true.1 h2.2 (p.1, p.2.1) (List.mem_map.2 ⟨p, hp, rfl⟩)
  rw [beq_iff_eq] at h3
  simp only [h, beq_self_eq_true] at h3
  simpa using h3

theorem look_qs {qs : Qs} {fr0 : Fr} {ns : List Nat} (hm : mOk ops (qs.map fun q => (q.1, q.2.1)) ns = true) {q : Nat × Nat × AV} (hq : q ∈ qs) {a : AV} (h : look (qs.map (·.2) ++ fr0) q.2.1 = some a) : ∃ p ∈ qs, p.1 = q.1 ∧ p.2 = (q.2.1, a) := by
  have key : ∀ l : Qs, q ∈ l → (∀ p ∈ l, p ∈ qs) → look (l.map (·.2) ++ fr0) q.2.1 = some a → ∃ p ∈ qs, p.1 = q.1 ∧ p.2 = (q.2.1, a) := by
    intro l
    induction l with
    | nil => intro h; cases h
    | cons p l ih =>
      intro h1 h2 h3
      obtain ⟨i, d, v⟩ := p
      simp only [List.map_cons, List.cons_append, look] at h3
      by_cases e : d = q.2.1
      · subst e
        simp at h3
        subst h3
        exact ⟨_, h2 _ (List.mem_cons_self ..), qs_uniq hm (h2 _ (List.mem_cons_self ..)) hq rfl, rfl⟩
      · have : (d == q.2.1) = false := by simpa using e
        rw [this] at h3
        refine ih ?_ (fun p hp => h2 p (List.mem_cons_of_mem _ hp)) (by simpa using h3)
        rcases List.mem_cons.1 h1 with h | h
        · exact absurd (by rw [h]) e
        · exact h
  exact key qs hq (fun p hp => hp) h

/-- Quiet operations run, up to one that is none or to the end. -/
theorem mQ {qs : Qs} {fr0 fe : Fr} {ns dn es : List Nat} (pend : List Nat) (hb : backOk ops = true) (hm : mOk ops (qs.map fun q => (q.1, q.2.1)) ns = true) (hq : QP P n H ops (fe ++ (qs.map (·.2) ++ fr0)) qs pend) (hp : pendOk ops (qs.map fun q => (q.1, q.2.1)) dn pend = true)
    (h : ∀ S is, Lin ops S is → (∀ i is', is = i :: is' → ns.elem i = true) → Closed ops S → (∀ i ∈ dn, i ∈ S) → (∀ q ∈ qs, q.1 ∉ S → look fe q.2.1 = none) → (is.filter fun i => ns.elem i) = es → ∀ r, x.bind X = some r → ∀ (w0 : World) (F0 Z0 : Nat → Prop) (w : World) (F Z : Nat → Prop) (tmps : Array Value), tmps.size = n → Inv w0 w F0 Z0 F Z H →
      (∀ t a, look (fe ++ (qs.map (·.2) ++ fr0)) t = some a → Avl qs S t → a.p Z w (tmps.getD t undef)) → Run P f (.inRegion ops is :: k) tmps w (Done w0 F0 Z0 (K r))) : SimM P f n ops k qs fr0 ns dn es fe H x X K := by
  intro S is hl
  have hm0 := hm
  simp only [mOk, Bool.and_eq_true] at hm0
  induction hl with
  | @nil S hS => exact h S [] (.nil hS) (by simp)
  | @cons S is i o ho hn he hl ih =>
    cases hi : ns.elem i with
    | true => exact h S (i :: is) (.cons ho hn he hl) (fun j is' e => by cases e; exact hi)
    | false =>
      intro hcl hdn hfe hes r hr w0 F0 Z0 w F Z tmps hsz hinv hf
      have hilt : i < ops.size := by
        rcases Nat.lt_or_ge i ops.size with h | h
        · exact h
        · simp [h] at ho
      -- it is a quiet one
      have hiq : ∃ q ∈ qs, q.1 = i := by
        have := (all_lt _ _).1 hm0.1.1.1 i hilt
        rw [hi, Bool.false_or, List.any_eq_true] at this
        obtain ⟨q, hq1, hq2⟩ := this
        obtain ⟨p, hp1, rfl⟩ := List.mem_map.1 hq1
        exact ⟨p, hp1, by simpa using hq2⟩
      obtain ⟨q0, hq0, hq0i⟩ := hiq
      have hpend : i ∈ pend := by
        have := List.all_eq_true.1 hp (q0.1, q0.2.1) (List.mem_map.2 ⟨q0, hq0, rfl⟩)
        rw [Bool.or_eq_true] at this
        rcases this with h | h
        · simpa [hq0i] using h
        · exfalso
          rw [List.any_eq_true] at h
          obtain ⟨j, hj1, hj2⟩ := h
          have hjS := hdn j hj1
          -- j is done, so is what stands ahead of it
          have hjo : ∃ p, ops[j]? = some p := by
            rcases Nat.lt_or_ge j ops.size with hlt | hge
            · exact ⟨ops[j], by simp [hlt]⟩
            · exfalso
              have hz : ∀ (l : List Oper) (bs : List Nat), (bef bs l).length = bs.length + l.length := by
                intro l
                induction l with
                | nil => intro bs; simp [bef]
                | cons o l ih => intro bs; simp only [bef]; rw [ih]; simp; omega
              have : (bef [] ops.toList).length ≤ j := by rw [hz]; simpa using hge
              simp only [bitsOf, List.getD_eq_getElem?_getD, List.getElem?_eq_none this, Option.getD_none, Nat.zero_testBit] at hj2
              cases hj2
          obtain ⟨p, hpj⟩ := hjo
          have := bits_in hb hcl hpj (hcl j hjS p hpj) hj2
          simp only [hq0i] at this
          exact hn this
      obtain ⟨d, o', av, ho', hqat, hd, hdn', hop⟩ := hq.get i hpend
      rw [ho] at ho'; cases ho'
      have hqm := qat_mem hqat
      -- a slot that it reads
      have hslot : ∀ t, t ∈ reads ops o → ∀ a, look (fe ++ (qs.map (·.2) ++ fr0)) t = some a → a.p Z w (tmps.getD t undef) := by
        intro t ht a hla
        refine hf t a hla fun q hqq hqt => ?_
        have h1 := List.all_eq_true.1 hm0.1.2 (i, d) (List.mem_map.2 ⟨_, hqm, rfl⟩)
        simp only [ho] at h1
        have h2 := List.all_eq_true.1 h1 (q.1, q.2.1) (List.mem_map.2 ⟨q, hqq, rfl⟩)
        simp only [hqt, Bool.or_eq_true, Bool.and_eq_true, Bool.not_eq_true'] at h2
        rcases h2 with h2 | ⟨_, h2⟩
        · exact absurd ht (by simpa using h2)
        · exact bits_in hb hcl ho he h2
      have hon : FrOn (opTmps o.op) (fe ++ (qs.map (·.2) ++ fr0)) Z w tmps := fun t ht a ha => hslot t (by unfold reads; simp [ht]) a ha
      have hes' : (is.filter fun i => ns.elem i) = es := by
        rw [List.filter_cons, hi] at hes
        exact hes
      have next : ∀ v w' Z', Inv w0 w' F0 Z0 F Z' H → (∀ b, Z b → Z' b) → Keep Z w w' → av.p Z' w' v → Run P f (.inRegion ops is :: k) (tmps.setIfInBounds d v) w' (Done w0 F0 Z0 (K r)) := by
        intro v w' Z' hi' hz hk hv
        refine ih (hcl.add ho he) (fun j hj => List.mem_cons_of_mem _ (hdn j hj)) (fun q hqq hqn => hfe q hqq fun hx => hqn (List.mem_cons_of_mem _ hx)) hes' r hr w0 F0 Z0 w' F Z' _ (by simpa using hsz) hi' fun t a hla hav => ?_
        rw [getD_set _ _ _ _ (by omega)]
        by_cases e : d = t
        · subst e
          rw [if_pos rfl]
          have hnone := hfe _ hqm hn
          simp only at hnone
          rw [look_app, hnone] at hla
          obtain ⟨p, hp1, hp2, hp3⟩ := look_qs hm hqm hla
          -- the same operation, so the same fact
          have : p = (i, d, av) ∨ p.1 = i := .inr hp2
          have hq2 := hqat
          have hsame : ∀ l : Qs, (∀ u ∈ l, u ∈ qs) → qat l i = some (d, av) → look (l.map (·.2) ++ fr0) d = some a → a = av := by
            intro l
            induction l with
            | nil => intro _ h; simp [qat] at h
            | cons u l ihl =>
              intro hu h1 h2
              obtain ⟨i', d', v'⟩ := u
              simp only [qat] at h1
              simp only [List.map_cons, List.cons_append, look] at h2
              by_cases ei : i' = i
              · subst ei
                simp at h1
                obtain ⟨rfl, rfl⟩ := h1
                simpa using h2.symm
              · have eb : (i' == i) = false := by simpa using ei
                rw [eb] at h1
                have hdd : d' ≠ d := fun ed => ei (qs_uniq hm (hu _ (List.mem_cons_self ..)) hqm ed)
                have ed : (d' == d) = false := by simpa using hdd
                rw [ed] at h2
                exact ihl (fun u h => hu u (List.mem_cons_of_mem _ h)) (by simpa using h1) (by simpa using h2)
          rw [hsame qs (fun u h => h) hqat hla]
          exact hv
        · rw [if_neg e]
          refine a.st hz hk (hf t a hla fun q hqq hqt => ?_)
          rcases List.mem_cons.1 (hav q hqq hqt) with h | h
          · exfalso
            apply e
            rw [← hqt]
            exact (qs_uniq' hm hqm hqq h.symm)
          · exact h
      cases hop with
      | r hD => exact does_run (d := d) hd hdn' ho (wanted_none rfl) hsz hinv (hD _ rfl rfl w0 F0 Z0 w F Z tmps hsz hinv hon) next
      | @g op ty dst pos aft av j dj b t oj hj hdj hl' ht hjn hD =>
        have hjn' : dj < tmps.size := by rw [hsz]; simpa [Nat.blt_eq] using hjn
        have hy := yield_of hj hdj hjn' (hslot dj (by simp [reads, hj, hdj]) _ hl')
        exact does_run (d := d) hd hdn' ho (by simp [Region.wanted, hy, ht]) hsz hinv (hD _ rfl rfl w0 F0 Z0 w F Z tmps hsz hinv hon) next
      | @u op ty dst pos aft j dj b t oj hj hdj hl' ht hjn =>
        have hjn' : dj < tmps.size := by rw [hsz]; simpa [Nat.blt_eq] using hjn
        have hy := yield_of hj hdj hjn' (hslot dj (by simp [reads, hj, hdj]) _ hl')
        refine .unwanted ho (by subst ht; cases b <;> simp [Region.wanted, hy]) ?_
        rw [show (⟨dst, op, ty, pos, aft, some (j, b)⟩ : Oper).dst = some d from hd]
        exact next undef w Z hinv (fun _ x => x) (Keep.refl _ _) rfl
      | @v op ty dst pos aft j dj b oj hj hdj hl' hjn =>
        have hjn' : dj < tmps.size := by rw [hsz]; simpa [Nat.blt_eq] using hjn
        have hy := yield_none hj hdj hjn' (hslot dj (by simp [reads, hj, hdj]) _ hl')
        refine .unwanted ho (by simp [Region.wanted, hy]) ?_
        rw [show (⟨dst, op, ty, pos, aft, some (j, b)⟩ : Oper).dst = some d from hd]
        exact next undef w Z hinv (fun _ x => x) (Keep.refl _ _) rfl

/-- Facts that were put ahead, of slots of ts alone. -/
inductive Ext (ts : List Nat) : Fr → Fr → Prop
  | z {B : Fr} : Ext ts B B
  | s {t : Nat} {a : AV} {F B : Fr} : ts.elem t = true → Ext ts F B → Ext ts ((t, a) :: F) B
theorem Ext.look {ts : List Nat} {F B : Fr} (h : Ext ts F B) {t : Nat} (ht : ts.elem t = false) : look F t = look B t := by
  induction h with
  | z => rfl
  | @s u a F B hu _ ih =>
    have : (u == t) = false := by
      cases e : u == t with
      | false => rfl
      | true => have : u = t := by simpa using e
                subst this; rw [hu] at ht; cases ht
    simp only [S.look, this, cond_false]
    exact ih
theorem look_slots {fe : Fr} {t : Nat} : look fe t = none ↔ (fe.map (·.1)).elem t = false := by
  induction fe with
  | nil => simp [look]
  | cons p fe ih =>
    obtain ⟨u, a⟩ := p
    by_cases e : u = t
    · subst e; simp [look]
    · have h1 : (u == t) = false := by simpa using e
      have h2 : (t == u) = false := by simpa using fun h => e (Eq.symm h)
      simp only [look, h1, cond_false, ih, List.map_cons, List.elem_cons, h2]

def unOk (ops : Array Oper) (ids : List (Nat × Nat)) (fs dn : List Nat) (e : Nat) (un : List Nat) : Bool :=
  (ids.all fun q => (bitsOf ops e).testBit q.1 || (dn.any fun j => (bitsOf ops j).testBit q.1) || un.elem q.2) && (un.all fun t => ids.any fun q => q.2 == t) && fs.all fun t => !un.elem t
def feOk (ops : Array Oper) (un dn fs fs' : List Nat) : Bool :=
  (fs'.all fun t => !un.elem t) && (dn.all fun j => match (ops[j]?).bind (·.dst) with
    | some t => fs'.elem t
    | none => true) && fs.all fun t => fs'.elem t

theorem look_pass {qs : Qs} {t : Nat} (p : Nat × Nat × AV → Bool) (h : ∀ q ∈ qs, q.2.1 = t → p q = true) : look ((qs.filter p).map (·.2)) t = look (qs.map (·.2)) t := by
  induction qs with
  | nil => rfl
  | cons q qs ih =>
    obtain ⟨i, d, a⟩ := q
    have ih := ih fun q hq => h q (List.mem_cons_of_mem _ hq)
    by_cases e : d = t
    · subst e
      have := h (i, d, a) (List.mem_cons_self ..) rfl
      simp [List.filter_cons, this, look]
    · have hb : (d == t) = false := by simpa using e
      simp only [List.filter_cons, List.map_cons, look, hb, cond_false]
      split
      · simp only [List.map_cons, look, hb, cond_false]; exact ih
      · exact ih
theorem look_mem {fe : Fr} {t : Nat} {a : AV} (h : look fe t = some a) : (t, a) ∈ fe := by
  induction fe with
  | nil => simp [look] at h
  | cons p fe ih =>
    obtain ⟨u, b⟩ := p
    simp only [look] at h
    by_cases e : u = t
    · subst e; simp at h; subst h; exact List.mem_cons_self ..
    · have hb : (u == t) = false := by simpa using e
      rw [hb] at h; exact List.mem_cons_of_mem _ (ih h)

theorem same_ops {qs : Qs} {ns : List Nat} (hm : mOk ops (qs.map fun q => (q.1, q.2.1)) ns = true) {i j : Nat} {o : Oper} (hi : ops[i]? = some o) (hj : ops[j]? = some o) : i = j := by
  simp only [mOk, Bool.and_eq_true] at hm
  have h4 := (all_lt _ _).1 hm.2
  have lt : ∀ {i : Nat}, ops[i]? = some o → i < ops.size := by
    intro i hi
    rcases Nat.lt_or_ge i ops.size with h | h
    · exact h
    · simp [h] at hi
  rcases Nat.lt_trichotomy i j with h | h | h
  · have := (all_lt _ _).1 (h4 j (lt hj)) i h
    simp [hi, hj] at this
  · exact h
  · have := (all_lt _ _).1 (h4 i (lt hi)) j h
    simp [hi, hj] at this

theorem same_list {qs : Qs} {ns : List Nat} (hm : mOk ops (qs.map fun q => (q.1, q.2.1)) ns = true) : ∀ {ks is : List Nat} {l : List Oper}, ks.map (fun i => ops[i]?) = l.map some → is.map (fun i => ops[i]?) = l.map some → ks = is := by
  intro ks
  induction ks with
  | nil =>
    intro is l h1 h2
    cases l with
    | nil => simpa using h2.symm
    | cons o l => simp at h1
  | cons i ks ih =>
    intro is l h1 h2
    cases l with
    | nil => simp at h1
    | cons o l =>
      cases is with
      | nil => simp at h2
      | cons j is =>
        simp only [List.map_cons, List.cons.injEq] at h1 h2
        rw [same_ops hm h1.1 h2.1, ih h1.2 h2.2]

/-- The next one of those that make or write: it is run by its own rules, in a frame that tells what is known by then. -/
theorem mE {qs : Qs} {fr0 fe : Fr} {ns dn es : List Nat} {e : Nat} {o : Oper} (un pend : List Nat) (hb : backOk ops = true) (hm : mOk ops (qs.map fun q => (q.1, q.2.1)) ns = true) (hp : pendOk ops (qs.map fun q => (q.1, q.2.1)) dn pend = true) (hun : unOk ops (qs.map fun q => (q.1, q.2.1)) (fe.map (·.1)) dn e un = true) (ho : ops[e]? = some o) (hns : ns.elem e = true)
    (hq : QP P n H ops (fe ++ (qs.map (·.2) ++ fr0)) qs pend)
    (h : ∀ (ab : Fr) (l : List Oper), (∀ {F' : Fr} {H' H'' : List Res} (fe' : Fr) (js : List Nat), Sub fe' F' → Ext (fe'.map (·.1)) F' (frL un (fe ++ (qs.map (·.2) ++ fr0)) ++ ab) → S.pickR H' js = H'' → feOk ops un (e :: dn) (fe.map (·.1)) (fe'.map (·.1)) = true → SimM P f n ops k qs fr0 ns (e :: dn) es fe' H'' x X K → SimL P f n ops l k F' H' x X K) →
      SimL P f n ops (o :: l) k (frL un (fe ++ (qs.map (·.2) ++ fr0)) ++ ab) H x X K) : SimM P f n ops k qs fr0 ns dn (e :: es) fe H x X K := by
  refine mQ pend hb hm hq hp ?_
  intro S is hl hhead hcl hdn hfe hes r hr w0 F0 Z0 w F Z tmps hsz hinv hf
  have hm0 := hm
  simp only [mOk, Bool.and_eq_true] at hm0
  simp only [unOk, Bool.and_eq_true] at hun
  cases hl with
  | nil _ => simp at hes
  | @cons _ is i o' ho' hn he hl =>
    have hi := hhead i is rfl
    rw [List.filter_cons, hi, if_pos rfl] at hes
    simp only [List.cons.injEq] at hes
    obtain ⟨rfl, hes⟩ := hes
    rw [ho] at ho'; cases ho'
    have hlen : ∀ (l : List Oper) (bs : List Nat), (bef bs l).length = bs.length + l.length := by
      intro l
      induction l with
      | nil => intro bs; simp [bef]
      | cons o l ih => intro bs; simp only [bef]; rw [ih]; simp; omega
    have bitsS : ∀ j ∈ dn, ∀ q, (bitsOf ops j).testBit q = true → q ∈ S := by
      intro j hj q hq'
      have : ∃ p, ops[j]? = some p := by
        rcases Nat.lt_or_ge j ops.size with hlt | hge
        · exact ⟨ops[j], by simp [hlt]⟩
        · exfalso
          have : (bef [] ops.toList).length ≤ j := by rw [hlen]; simpa using hge
          simp only [bitsOf, List.getD_eq_getElem?_getD, List.getElem?_eq_none this, Option.getD_none, Nat.zero_testBit] at hq'
          cases hq'
      obtain ⟨p, hp⟩ := this
      exact bits_in hb hcl hp (hcl j (hdn j hj) p hp) hq'
    -- a quiet one is done, or its slot is not told of
    have hav : ∀ q ∈ qs, un.elem q.2.1 = false → q.1 ∈ S := by
      intro q hqq hqu
      have := List.all_eq_true.1 hun.1.1 (q.1, q.2.1) (List.mem_map.2 ⟨q, hqq, rfl⟩)
      simp only [hqu, Bool.or_false, Bool.or_eq_true] at this
      rcases this with h | h
      · exact bits_in hb hcl ho he h
      · rw [List.any_eq_true] at h
        obtain ⟨j, hj1, hj2⟩ := h
        exact bitsS j hj1 _ hj2
    have hunq : ∀ t, un.elem t = true → ∃ q ∈ qs, q.2.1 = t := by
      intro t ht
      have := List.all_eq_true.1 hun.1.2 t (by simpa using ht)
      rw [List.any_eq_true] at this
      obtain ⟨q, hq1, hq2⟩ := this
      obtain ⟨p, hp1, rfl⟩ := List.mem_map.1 hq1
      exact ⟨p, hp1, by simpa using hq2⟩
    have hqns : ∀ q ∈ qs, q.1 ≠ i := by
      intro q hqq e
      have := List.all_eq_true.1 hm0.1.1.2 (q.1, q.2.1) (List.mem_map.2 ⟨q, hqq, rfl⟩)
      rw [Bool.and_eq_true] at this
      rw [e, hi] at this
      simp at this
    have hqfr : ∀ {t : Nat} {a : AV}, (∃ q ∈ qs, q.2.1 = t) → look (qs.map (·.2) ++ fr0) t = some a → look (qs.map (·.2)) t = some a := by
      rintro t a ⟨q, hqq, rfl⟩ hla
      rw [look_app] at hla
      cases hc : look (qs.map (·.2)) q.2.1 with
      | some b => rw [hc] at hla; exact hla
      | none =>
        rw [look_slots] at hc
        have : q.2.1 ∉ (qs.map (·.2)).map (·.1) := by simpa using hc
        exact absurd (List.mem_map.2 ⟨q.2, List.mem_map.2 ⟨q, hqq, rfl⟩, rfl⟩) this
    -- facts of slots that are not told of, as far as they are there
    let ab : Fr := (qs.filter fun q => S.elem q.1 && un.elem q.2.1).map (·.2)
    have hab : ∀ {t : Nat} {a : AV}, look ab t = some a → un.elem t = true ∧ look (qs.map (·.2)) t = some a ∧ Avl qs S t := by
      intro t a hla
      have hmem := look_mem hla
      obtain ⟨q, hq1, hq2⟩ := List.mem_map.1 hmem
      rw [List.mem_filter, Bool.and_eq_true] at hq1
      obtain ⟨hqq, hqs, hqu⟩ := hq1
      rw [hq2] at hqu
      have hall : Avl qs S t := fun p hp hpt => by
        have : p.1 = q.1 := qs_uniq hm hp hqq (by rw [hpt, hq2])
        rw [this]; simpa using hqs
      refine ⟨hqu, ?_, hall⟩
      rw [← look_pass (fun q => S.elem q.1 && un.elem q.2.1) (fun p hp hpt => by
        rw [Bool.and_eq_true]
        exact ⟨by simpa using hall p hp hpt, by rw [hpt]; exact hqu⟩)]
      exact hla
    have hba : ∀ {t : Nat} {a : AV}, un.elem t = true → look (qs.map (·.2)) t = some a → Avl qs S t → look ab t = some a := by
      intro t a ht hla hall
      show look ((qs.filter _).map (·.2)) t = _
      rw [look_pass _ (fun p hp hpt => by
        rw [Bool.and_eq_true]
        exact ⟨by simpa using hall p hp hpt, by rw [hpt]; exact ht⟩)]
      exact hla
    refine h ab (is.filterMap fun i => ops[i]?) ?_ (i :: is) (by simp [ho, lin_map hl]) r hr w0 F0 Z0 w F Z tmps hsz hinv ?_
    · intro F' H' H'' fe' js hsub hext hpk hok hM ks hks
      have hke := same_list hm hks (lin_map hl)
      subst hke
      simp only [feOk, Bool.and_eq_true] at hok
      intro r2 hr2 w0' F0' Z0' w' F'' Z' tmps' hn' hi' hf'
      refine hM (i :: S) ks hl (hcl.add ho he) (fun j hj => ?_) (fun q hqq hqn => ?_) hes r2 hr2 w0' F0' Z0' w' F'' Z' tmps' hn' (hpk ▸ hi'.less (·.pickR js)) ?_
      · rcases List.mem_cons.1 hj with rfl | hj
        · exact List.mem_cons_self ..
        · exact List.mem_cons_of_mem _ (hdn j hj)
      · rw [look_slots]
        cases hu : un.elem q.2.1 with
        | false => exact absurd (List.mem_cons_of_mem _ (hav q hqq hu)) hqn
        | true =>
          cases hc : (fe'.map (·.1)).elem q.2.1 with
          | false => rfl
          | true =>
            have := List.all_eq_true.1 hok.1.1 q.2.1 (by simpa using hc)
            rw [hu] at this; cases this
      · intro t a hla hall
        rw [look_app] at hla
        cases hc : look fe' t with
        | some b =>
          rw [hc] at hla
          exact hf' t a (hsub.look (by rw [hc]; exact hla))
        | none =>
          rw [hc] at hla
          have hc' := look_slots.1 hc
          refine hf' t a ?_
          rw [hext.look hc', look_app, look_frL]
          cases hu : un.elem t with
          | true =>
            simp only [if_true]
            obtain ⟨q, hqq, hqt⟩ := hunq t hu
            refine hba hu (hqfr ⟨q, hqq, hqt⟩ hla) fun p hp hpt => ?_
            rcases List.mem_cons.1 (hall p hp hpt) with h | h
            · exact absurd h (hqns p hp)
            · exact h
          | false =>
            have hfe0 : look fe t = none := by
              rw [look_slots]
              cases hc2 : (fe.map (·.1)).elem t with
              | false => rfl
              | true =>
                have := List.all_eq_true.1 hok.2 t (by simpa using hc2)
                rw [this] at hc'; cases hc'
            simp only [Bool.false_eq_true, if_false, look_app fe, hfe0, hla]
    · intro t a hla
      rw [look_app, look_frL] at hla
      cases hu : un.elem t with
      | true =>
        rw [hu] at hla
        simp only [if_true] at hla
        obtain ⟨_, h2, h3⟩ := hab hla
        refine hf t a ?_ h3
        have hfe0 : look fe t = none := by
          rw [look_slots]
          cases hc2 : (fe.map (·.1)).elem t with
          | false => rfl
          | true =>
            have := List.all_eq_true.1 hun.2 t (by simpa using hc2)
            rw [hu] at this; cases this
        rw [look_app, hfe0, look_app, h2]
      | false =>
        rw [hu] at hla
        simp only [Bool.false_eq_true, if_false] at hla
        cases hc : look (fe ++ (qs.map (·.2) ++ fr0)) t with
        | some b =>
          rw [hc] at hla
          exact hf t a (by rw [hc]; exact hla) fun q hqq hqt => hav q hqq (by rw [hqt]; exact hu)
        | none =>
          rw [hc] at hla
          have := (hab hla).1
          rw [hu] at this; cases this

/-- All that makes or writes is done. -/
theorem mEnd {qs : Qs} {fr0 fe : Fr} {ns dn : List Nat} (pend : List Nat) (hb : backOk ops = true) (hm : mOk ops (qs.map fun q => (q.1, q.2.1)) ns = true) (hp : pendOk ops (qs.map fun q => (q.1, q.2.1)) dn pend = true) (hq : QP P n H ops (fe ++ (qs.map (·.2) ++ fr0)) qs pend)
    (h : Sim P f n k (fe ++ (qs.map (·.2) ++ fr0)) H x X K) : SimM P f n ops k qs fr0 ns dn [] fe H x X K := by
  refine mQ pend hb hm hq hp ?_
  intro S is hl hhead hcl hdn hfe hes r hr w0 F0 Z0 w F Z tmps hsz hinv hf
  have hm0 := hm
  simp only [mOk, Bool.and_eq_true] at hm0
  cases hl with
  | nil hS =>
    refine .regionEnd (h r hr w0 F0 Z0 w F Z tmps hsz hinv fun t a hla => hf t a hla fun q hqq _ => hS _ ?_)
    have := List.all_eq_true.1 hm0.1.2 (q.1, q.2.1) (List.mem_map.2 ⟨q, hqq, rfl⟩)
    rcases Nat.lt_or_ge q.1 ops.size with h | h
    · exact h
    · simp [h] at this
  | @cons _ is i o' ho' hn he hl =>
    have hi := hhead i is rfl
    rw [List.filter_cons, hi, if_pos rfl] at hes
    cases hes

/-- An open order: what makes or writes is told order by order, what is quiet runs at whatever time. -/
theorem sDrawM {id : Nat} (qs : Qs) (ns : List Nat) (L : List (List Nat)) (hmx : P.follows .mixedOrders = true) (hb : backOk ops = true) (hm : mOk ops (qs.map fun q => (q.1, q.2.1)) ns = true) (hns : ns.all (fun i => Nat.blt i ops.size) = true) (hL : extsE ops (bef [] ops.toList) ns ns.length [] = L)
    (h : Each (fun es => SimM P f n ops k qs fr ns [] es [] H x X K) L) : Sim P f n (.code (.region id ops true) :: k) fr H x X K := by
  intro r hr w0 F0 Z0 w F Z tmps hn hi hf
  refine .regionDraw fun t => ?_
  have hlin := lin_schedule hmx ops hb t
  have hcl : Closed ops [] := fun i hi => by cases hi
  have hmem := lin_extsE hb (ns := ns) (fun i hi => by have := List.all_eq_true.1 hns i hi; simpa [Nat.blt_eq] using this) hlin hcl ns.length [] (fun j _ => by simp) (List.length_filter_le _ _)
  rw [hL] at hmem
  refine h.mem _ hmem [] _ hlin hcl (fun i hi => by cases hi) (fun _ _ _ => rfl) rfl r hr w0 F0 Z0 _ F Z tmps hn (hi.quiet (Step.drew w _) (fun _ x => x) (fun _ x => .inl x)) fun t a hla hav => ?_
  refine AV.st a (w := w) (w' := { w with drawn := w.drawn + 1 }) (fun _ x => x) (fun _ _ => rfl) (hf t a ?_)
  rw [List.nil_append, look_app] at hla
  cases hc : look (qs.map (·.2)) t with
  | none => rw [hc] at hla; exact hla
  | some b =>
    obtain ⟨q, hq1, hq2⟩ := List.mem_map.1 (look_mem hc)
    exact absurd (hav q hq1 (by rw [hq2])) (by simp)
end
end S
end Go.Proofs.Ytpjhcllohagjoaa
