/-
  Law DependsMore of chapter 6, in plain Lean. Own work; no claim stands here.
-/
import Derived.Test.YtnkpelhaablheaaPDep
import Derived.Test.YtnkpelhaablheaaFF
namespace Go.Proofs.Ytnkpelhaablheaa
open S Go.Sort
set_option linter.unusedVariables false
set_option linter.unusedSimpArgs false
set_option maxRecDepth 100000

def Rm (g : Grammar) (rule : Int) : Int := IntKind.wrap .i64 (Int.tmod (IntKind.wrap .u64 rule) (IntKind.wrap .u64 (g.Rules.length : Int)))
def Cm (g : Grammar) (rule conj : Int) : Int := IntKind.wrap .i64 (Int.tmod (IntKind.wrap .u64 conj) (IntKind.wrap .u64 (((rd g.Rules (Rm g rule)).Conj).length : Int)))
def Tm (g : Grammar) (to : Int) : Int := IntKind.wrap .i64 (Int.tmod (IntKind.wrap .u64 to) (IntKind.wrap .u64 (g.Names.length : Int)))
def xM (g : Grammar) (rule conj to : Int) : Edge := ⟨(rd g.Rules (Rm g rule)).Head, Tm g to, (rd ((rd g.Rules (Rm g rule)).Conj) (Cm g rule conj)).Neg⟩
/-- A grammar with one symbol more. -/
def plus (h : Grammar) (r c t : Int) : Grammar := ⟨h.Start, h.Names, h.Rules.set r.toNat (⟨(rd h.Rules r).Head, ((rd h.Rules r).Conj).set c.toNat (⟨(rd ((rd h.Rules r).Conj) c).Neg, ((rd ((rd h.Rules r).Conj) c).Seq) ++ ([(⟨t, (0 : Int), (0 : Int)⟩ : Symbol)] : List Symbol)⟩ : Conjunct)⟩ : Rule)⟩
theorem More_eq (K : Nat) (g : Grammar) (rule conj to : Int) : templelaw6_DependsMore K g rule conj to = (templelaw6_awake K).bind fun r_5 => if (!r_5) = true then some false else (deps_Edges K g).bind fun r_8 => (templelaw0_Num K r_8.2).bind fun r_11 => if r_11 ≠ 0 then (templeref1_May K g).bind fun r_14 => some (!r_14) else if IntKind.wrap .u64 (g.Rules.length : Int) ≠ 0 then if 0 ≤ Rm g rule then if Rm g rule < (g.Rules.length : Int) then if IntKind.wrap .u64 (((rd g.Rules (Rm g rule)).Conj).length : Int) ≠ 0 then (templelaw0_CopyGrammar K g).bind fun r_20 => if IntKind.wrap .u64 (g.Names.length : Int) ≠ 0 then if 0 ≤ Cm g rule conj then if Cm g rule conj < (((rd g.Rules (Rm g rule)).Conj).length : Int) then if Rm g rule < (r_20.Rules.length : Int) then if Cm g rule conj < (((rd r_20.Rules (Rm g rule)).Conj).length : Int) then if (((rd ((rd r_20.Rules (Rm g rule)).Conj) (Cm g rule conj)).Seq).length + ([(⟨Tm g to, (0 : Int), (0 : Int)⟩ : Symbol)] : List Symbol).length) * 24 ≤ 140737488355328 then (deps_Edges K (plus r_20 (Rm g rule) (Cm g rule conj) (Tm g to))).bind fun r_39 => (templelaw0_Num K r_39.2).bind fun r_42 => if r_42 ≠ 0 then (templeref1_May K (plus r_20 (Rm g rule) (Cm g rule conj) (Tm g to))).bind fun r_45 => some (!r_45) else brk (templelaw6_DependsMore.l0 K g rule conj to r_8 r_39 K (0, 0)) fun (k_47, i_48) => if k_47 = (r_8.1.length : Int) then (templelaw6_has K r_39.1 (xM g rule conj to)).bind fun r_58 => if r_58 = true then some (decide ((IntKind.wrap .i64 ((r_39.1.length : Int) - (r_8.1.length : Int))) ≤ 1)) else some false else some false else none else none else none else none else none else none else none else none else none else none := rfl
theorem More_step (K : Nat) (g : Grammar) (rule conj to : Int) (a b : List Edge) (ea eb : Int) (m : Nat) (k i : Int) : templelaw6_DependsMore.l0 K g rule conj to (a, ea) (b, eb) (m + 1) (k, i) = if i < (b.length : Int) then if k < (a.length : Int) then if 0 ≤ k then if 0 ≤ i then if (rd a k) = (rd b i) then templelaw6_DependsMore.l0 K g rule conj to (a, ea) (b, eb) m (IntKind.wrap .i64 (k + 1), IntKind.wrap .i64 (i + 1)) else if (rd b i) ≠ xM g rule conj to then some (.inr false) else templelaw6_DependsMore.l0 K g rule conj to (a, ea) (b, eb) m (k, IntKind.wrap .i64 (i + 1)) else none else none else if 0 ≤ i then if (rd b i) ≠ xM g rule conj to then some (.inr false) else templelaw6_DependsMore.l0 K g rule conj to (a, ea) (b, eb) m (k, IntKind.wrap .i64 (i + 1)) else none else some (.inl (k, i)) := rfl

theorem idx (x : Int) (n : Nat) (h1 : 1 ≤ n) (h2 : n ≤ 100000) : 0 ≤ IntKind.wrap .i64 (Int.tmod (IntKind.wrap .u64 x) (IntKind.wrap .u64 (n : Int))) ∧ IntKind.wrap .i64 (Int.tmod (IntKind.wrap .u64 x) (IntKind.wrap .u64 (n : Int))) < (n : Int) := by
  have e : IntKind.wrap .u64 (n : Int) = (n : Int) := wu (by omega) (by omega)
  have h3 : 0 ≤ IntKind.wrap .u64 x := by rw [wrap_u64]; omega
  rw [e]
  have h4 : 0 ≤ Int.tmod (IntKind.wrap .u64 x) (n : Int) := Int.tmod_nonneg _ h3
  have h5 : Int.tmod (IntKind.wrap .u64 x) (n : Int) < (n : Int) := Int.tmod_lt_of_pos _ (by omega)
  rw [wr (by omega) (by omega)]
  exact ⟨h4, h5⟩

theorem mem_set_or {T : Type} [Inhabited T] {xs : List T} {i : Int} {x y : T} (h0 : 0 ≤ i) (h1 : i < xs.length) (h : x ∈ xs) : x = rd xs i ∨ x ∈ xs.set i.toNat y := by
  obtain ⟨j, hj, rfl⟩ := List.getElem_of_mem h
  by_cases e : i.toNat = j
  · left
    subst e
    have := rd_get h0 h1
    rw [List.getElem?_eq_getElem (by omega)] at this
    exact Option.some.inj this
  · right
    refine List.mem_iff_getElem.2 ⟨j, by rw [List.length_set]; exact hj, ?_⟩
    rw [List.getElem_set, if_neg e]
theorem mem_set_new {T : Type} {xs : List T} {i : Int} {y : T} (h0 : 0 ≤ i) (h1 : i < xs.length) : y ∈ xs.set i.toNat y :=
  List.mem_iff_getElem.2 ⟨i.toNat, by rw [List.length_set]; omega, by rw [List.getElem_set_self]⟩
theorem plus_occ (g : Grammar) (r c t : Int) (hr0 : 0 ≤ r) (hr1 : r < (g.Rules.length : Int)) (hc0 : 0 ≤ c) (hc1 : c < ((rd g.Rules r).Conj.length : Int)) (ht : 0 ≤ t) (e : Edge) :
    Occ (plus g r c t) e ↔ Occ g e ∨ e = ⟨(rd g.Rules r).Head, t, (rd (rd g.Rules r).Conj c).Neg⟩ := by
  have mr := rd_mem hr0 hr1
  have mc := rd_mem hc0 hc1
  constructor
  · rintro ⟨r2, h2, c2, h3, s2, h4, h5, h6⟩
    rcases List.mem_or_eq_of_mem_set h2 with h2 | rfl
    · exact .inl ⟨r2, h2, c2, h3, s2, h4, h5, h6⟩
    · rcases List.mem_or_eq_of_mem_set h3 with h3 | rfl
      · exact .inl ⟨_, mr, c2, h3, s2, h4, h5, h6⟩
      · rcases List.mem_append.1 h4 with h4 | h4
        · exact .inl ⟨_, mr, _, mc, s2, h4, h5, h6⟩
        · rw [List.mem_singleton] at h4; subst h4; exact .inr h6
  · rintro (⟨r2, h2, c2, h3, s2, h4, h5, h6⟩ | rfl)
    · rcases mem_set_or (y := (⟨(rd g.Rules r).Head, ((rd g.Rules r).Conj).set c.toNat (⟨(rd ((rd g.Rules r).Conj) c).Neg, ((rd ((rd g.Rules r).Conj) c).Seq) ++ ([(⟨t, (0 : Int), (0 : Int)⟩ : Symbol)] : List Symbol)⟩ : Conjunct)⟩ : Rule)) hr0 hr1 h2 with h7 | h7
      · subst h7
        refine ⟨_, mem_set_new hr0 hr1, ?_⟩
        rcases mem_set_or (y := (⟨(rd ((rd g.Rules r).Conj) c).Neg, ((rd ((rd g.Rules r).Conj) c).Seq) ++ ([(⟨t, (0 : Int), (0 : Int)⟩ : Symbol)] : List Symbol)⟩ : Conjunct)) hc0 hc1 h3 with h8 | h8
        · subst h8
          exact ⟨_, mem_set_new hc0 hc1, s2, List.mem_append_left _ h4, h5, h6⟩
        · exact ⟨c2, h8, s2, h4, h5, h6⟩
      · exact ⟨r2, h7, c2, h3, s2, h4, h5, h6⟩
    · exact ⟨_, mem_set_new hr0 hr1, _, mem_set_new hc0 hc1, _, List.mem_append_right _ (.head _), ht, rfl⟩

theorem pairwise_eLt (g : Grammar) : (edgesOf g).Pairwise eLt := by
  rw [List.pairwise_iff_getElem]
  intro i j hi hj hij
  have h1 := List.pairwise_iff_getElem.1 (edgesOf_pairwise g) i j hi hj hij
  have h2 := List.pairwise_iff_getElem.1 (edges_nodup g) i j hi hj hij
  refine (rowC_lt _ _).1 ?_
  cases hc : ltOf rowC (edgesOf g)[i] (edgesOf g)[j] with
  | true => rfl
  | false => exact absurd (rowC_anti _ _ hc (by simpa using h1)) h2
theorem eLt_trans {a b c : Edge} (h1 : eLt a b) (h2 : eLt b c) : eLt a c := (rowC_lt a c).1 (rowC_swo.trans _ _ _ ((rowC_lt a b).2 h1) ((rowC_lt b c).2 h2))
/-- One edge more: put in where it belongs. -/
theorem insert_edge {g h : Grammar} {x : Edge} (hx : ¬ Occ g x) (ho : ∀ e, Occ h e ↔ Occ g e ∨ e = x) : ∃ p q, edgesOf g = p ++ q ∧ edgesOf h = p ++ x :: q := by
  have hs := pairwise_eLt g
  have key : ∀ e ∈ edgesOf g, ltOf rowC e x = false → eLt x e := fun e he h1 => by
    refine (rowC_lt x e).1 ?_
    cases h2 : ltOf rowC x e with
    | true => rfl
    | false => exact absurd ((mem_edges g e).1 he) (rowC_anti _ _ h1 h2 ▸ hx)
  have hp : ((edgesOf g).filter fun e => ltOf rowC e x).Pairwise eLt := hs.filter _
  have hq : ((edgesOf g).filter fun e => !(ltOf rowC e x)).Pairwise eLt := hs.filter _
  have cp : ∀ e ∈ (edgesOf g).filter (fun e => ltOf rowC e x), eLt e x := fun e he => (rowC_lt _ _).1 (List.mem_filter.1 he).2
  have cq : ∀ e ∈ (edgesOf g).filter (fun e => !(ltOf rowC e x)), eLt x e := fun e he => key e (List.mem_filter.1 he).1 (by have := (List.mem_filter.1 he).2; simpa using this)
  have hm : ∀ e, (e ∈ (edgesOf g).filter (fun e => ltOf rowC e x) ∨ e ∈ (edgesOf g).filter (fun e => !(ltOf rowC e x))) ↔ Occ g e := fun e => by
    rw [List.mem_filter, List.mem_filter, ← mem_edges g e]
    cases ltOf rowC e x <;> simp
  refine ⟨_, _, edgesOf_is g (List.pairwise_append.2 ⟨hp, hq, fun a ha b hb => eLt_trans (cp a ha) (cq b hb)⟩) fun e => by rw [List.mem_append]; exact hm e, edgesOf_is h (List.pairwise_append.2 ⟨hp, List.pairwise_cons.2 ⟨cq, hq⟩, fun a ha b hb => ?_⟩) fun e => ?_⟩
  · rcases List.mem_cons.1 hb with rfl | hb
    · exact cp a ha
    · exact eLt_trans (cp a ha) (cq b hb)
  · rw [List.mem_append, List.mem_cons, ho e, ← hm e]
    constructor
    · rintro (h1 | rfl | h1)
      · exact .inl (.inl h1)
      · exact .inr rfl
      · exact .inl (.inr h1)
    · rintro ((h1 | h1) | rfl)
      · exact .inl h1
      · exact .inr (.inr h1)
      · exact .inr (.inl rfl)

/-! ## The law's loop -/
theorem more_same (K : Nat) (g : Grammar) (rule conj to : Int) (a : List Edge) (h : a.length ≤ 1000000) : ∀ (k i m : Nat), i + k = a.length → k < m → templelaw6_DependsMore.l0 K g rule conj to (a, 0) (a, 0) m ((i : Int), (i : Int)) = some (.inl ((a.length : Int), (a.length : Int)))
  | 0, i, m, hi, hm => by
    obtain ⟨m, rfl⟩ : ∃ q, m = q + 1 := ⟨m - 1, by omega⟩
    rw [More_step, if_neg (by omega)]
    have : i = a.length := by omega
    rw [this]
  | k + 1, i, m, hi, hm => by
    obtain ⟨m, rfl⟩ : ∃ q, m = q + 1 := ⟨m - 1, by omega⟩
    have ih := more_same K g rule conj to a h k (i + 1) m (by omega) (by omega)
    rw [More_step, if_pos (by omega), if_pos (by omega), if_pos (by omega), if_pos (by omega), if_pos rfl, wr (a := (i : Int) + 1) (by omega) (by omega)]
    simpa using ih
theorem rd_append_l {T : Type} [Inhabited T] {p q : List T} {i : Nat} (h : i < p.length) : rd (p ++ q) (i : Int) = rd p (i : Int) := by
  rw [rd_nat, rd_nat, List.getD_eq_getElem?_getD, List.getD_eq_getElem?_getD, List.getElem?_append_left h]
theorem rd_append_r {T : Type} [Inhabited T] {p q : List T} {i : Nat} : rd (p ++ q) ((p.length + i : Nat) : Int) = rd q (i : Int) := by
  rw [rd_nat, rd_nat, List.getD_eq_getElem?_getD, List.getD_eq_getElem?_getD, List.getElem?_append_right (by omega)]
  congr 2; omega
theorem more_tail (K : Nat) (g : Grammar) (rule conj to : Int) (p q : List Edge) (x : Edge) (h : (p ++ q).length ≤ 1000000) : ∀ (k j m : Nat), j + k = q.length → k < m → templelaw6_DependsMore.l0 K g rule conj to (p ++ q, 0) (p ++ x :: q, 0) m (((p.length + j : Nat) : Int), ((p.length + (j + 1) : Nat) : Int)) = some (.inl (((p ++ q).length : Int), ((p ++ x :: q).length : Int)))
  | 0, j, m, hj, hm => by
    obtain ⟨m, rfl⟩ : ∃ q, m = q + 1 := ⟨m - 1, by omega⟩
    rw [More_step, if_neg (by simp only [List.length_append, List.length_cons]; omega)]
    have : j = q.length := by omega
    subst this
    simp only [List.length_append, List.length_cons]
  | k + 1, j, m, hj, hm => by
    obtain ⟨m, rfl⟩ : ∃ q, m = q + 1 := ⟨m - 1, by omega⟩
    have ih := more_tail K g rule conj to p q x h k (j + 1) m (by omega) (by omega)
    rw [List.length_append] at h
    have e1 : rd (p ++ q) ((p.length + j : Nat) : Int) = rd q (j : Int) := rd_append_r
    have e2 : rd (p ++ x :: q) ((p.length + (j + 1) : Nat) : Int) = rd q (j : Int) := by rw [rd_append_r]; rfl
    rw [More_step, if_pos (by simp only [List.length_append, List.length_cons]; omega), if_pos (by simp only [List.length_append]; omega), if_pos (by omega), if_pos (by omega), if_pos (by simp only [e1, e2]), wr (by omega) (by omega), wr (by omega) (by omega)]
    have c1 : ((p.length + j : Nat) : Int) + 1 = ((p.length + (j + 1) : Nat) : Int) := by omega
    have c2 : ((p.length + (j + 1) : Nat) : Int) + 1 = ((p.length + (j + 1 + 1) : Nat) : Int) := by omega
    rw [c1, c2]; exact ih
theorem more_head (K : Nat) (g : Grammar) (rule conj to : Int) (p q : List Edge) (hx : ¬ xM g rule conj to ∈ p ++ q) (h : (p ++ q).length ≤ 1000000) : ∀ (k i m : Nat), i + k = p.length → k + 1 + q.length < m → templelaw6_DependsMore.l0 K g rule conj to (p ++ q, 0) (p ++ xM g rule conj to :: q, 0) m ((i : Int), (i : Int)) = some (.inl (((p ++ q).length : Int), ((p ++ xM g rule conj to :: q).length : Int)))
  | 0, i, m, hi, hm => by
    obtain ⟨m, rfl⟩ : ∃ q, m = q + 1 := ⟨m - 1, by omega⟩
    have hp : i = p.length := by omega
    subst hp
    have hl := h
    rw [List.length_append] at hl
    have e2 : rd (p ++ xM g rule conj to :: q) (p.length : Int) = xM g rule conj to := by have := rd_append_r (p := p) (q := xM g rule conj to :: q) (i := 0); rw [Nat.add_zero] at this; rw [this]; rfl
    have ih := more_tail K g rule conj to p q (xM g rule conj to) h q.length 0 m (by omega) (by omega)
    rw [Nat.add_zero, Nat.zero_add] at ih
    have c1 : (p.length : Int) + 1 = ((p.length + 1 : Nat) : Int) := by omega
    rw [More_step, if_pos (by simp only [List.length_append, List.length_cons]; omega)]
    simp only [e2]
    rw [wr (a := (p.length : Int) + 1) (by omega) (by omega), c1]
    by_cases hq : (p.length : Int) < ((p ++ q).length : Int)
    · rw [if_pos hq, if_pos (by omega), if_pos (by omega), if_neg (fun he => hx (by have := rd_mem (xs := p ++ q) (i := (p.length : Int)) (by omega) hq; rw [he] at this; exact this)), if_neg (fun h => h rfl)]
      exact ih
    · rw [if_neg hq, if_pos (by omega), if_neg (fun h => h rfl)]
      exact ih
  | k + 1, i, m, hi, hm => by
    obtain ⟨m, rfl⟩ : ∃ q, m = q + 1 := ⟨m - 1, by omega⟩
    have ih := more_head K g rule conj to p q hx h k (i + 1) m (by omega) (by omega)
    have hl := h
    rw [List.length_append] at hl
    have e1 : rd (p ++ q) (i : Int) = rd p (i : Int) := rd_append_l (by omega)
    have e2 : rd (p ++ xM g rule conj to :: q) (i : Int) = rd p (i : Int) := rd_append_l (by omega)
    rw [More_step, if_pos (by simp only [List.length_append, List.length_cons]; omega), if_pos (by simp only [List.length_append]; omega), if_pos (by omega), if_pos (by omega), if_pos (by simp only [e1, e2]), wr (a := (i : Int) + 1) (by omega) (by omega)]
    simpa using ih

theorem DependsMore_true (K : Nat) (hK : KW ≤ K) (g : Grammar) (hg : SzG g) (rule conj to : Int) : templelaw6_DependsMore K g rule conj to = some true := by
  have hK' : 140737488355328 ≤ K := hK
  obtain ⟨b, hb, _, hm, h1, _⟩ := Edges_both K (by omega) g
  rw [More_eq, awake6 K (by omega), Option.bind_some, if_neg (by decide), h1, Option.bind_some]
  simp only [templelaw0_Num, Option.bind_some]
  cases b with
  | false =>
    simp only [Bool.false_eq_true, if_false]
    rw [if_pos (by decide), hm]; rfl
  | true =>
  have hmay := hb.1 rfl
  have hbd := may_bd hmay
  have hl := edges_len g hbd
  simp only [if_true]
  rw [if_neg (fun h => h rfl)]
  have r1 := hmay.2.2.2.1
  have r2 := hmay.2.2.2.2.1
  have n1 := hmay.1.1
  have n2 := hmay.1.2.1
  obtain ⟨R0, R1⟩ : 0 ≤ Rm g rule ∧ Rm g rule < (g.Rules.length : Int) := idx rule g.Rules.length r1 (by omega)
  have hrm := may_heads hmay _ (rd_mem R0 R1)
  have c1 := hrm.2.2.1
  have c2 := hrm.2.2.2.1
  obtain ⟨C0, C1⟩ : 0 ≤ Cm g rule conj ∧ Cm g rule conj < ((rd g.Rules (Rm g rule)).Conj.length : Int) := idx conj _ c1 (by omega)
  obtain ⟨T0, T1⟩ : 0 ≤ Tm g to ∧ Tm g to < (g.Names.length : Int) := idx to g.Names.length n1 (by omega)
  have hs := (hrm.2.2.2.2 _ (rd_mem C0 C1)).1
  rw [if_pos (by rw [wu (by omega) (by omega)]; omega), if_pos R0, if_pos R1, if_pos (by rw [wu (by omega) (by omega)]; omega), Copy_spec K hK g hg, Option.bind_some,
    if_pos (by rw [wu (by omega) (by omega)]; omega), if_pos C0, if_pos C1, if_pos R1, if_pos C1, if_pos (by simp only [List.length_cons, List.length_nil]; omega)]
  have hocc := plus_occ g (Rm g rule) (Cm g rule conj) (Tm g to) R0 R1 C0 C1 T0
  generalize plus g (Rm g rule) (Cm g rule conj) (Tm g to) = h at hocc ⊢
  obtain ⟨b2, hb2, _, hm2, h2, _⟩ := Edges_both K (by omega) h
  rw [h2, Option.bind_some]
  cases b2 with
  | false =>
    simp only [Bool.false_eq_true, if_false]
    rw [if_pos (by decide), hm2]; rfl
  | true =>
  have hl2 := edges_len h (may_bd (hb2.1 rfl))
  simp only [if_true]
  rw [if_neg (fun h => h rfl)]
  have hx : Occ h (xM g rule conj to) := (hocc _).2 (.inr rfl)
  have key : ∃ q, templelaw6_DependsMore.l0 K g rule conj to (edgesOf g, 0) (edgesOf h, 0) K (0, 0) = some (.inl (((edgesOf g).length : Int), q)) ∧ ((edgesOf h).length = (edgesOf g).length ∨ (edgesOf h).length = (edgesOf g).length + 1) := by
    by_cases ho : Occ g (xM g rule conj to)
    · have e : edgesOf h = edgesOf g := edgesOf_is h (pairwise_eLt g) fun e => by
        rw [mem_edges, hocc e]
        exact ⟨.inl, fun h => h.elim id fun he => he ▸ ho⟩
      rw [e]
      exact ⟨_, more_same K g rule conj to (edgesOf g) (by omega) (edgesOf g).length 0 K (by omega) (by omega), .inl rfl⟩
    · obtain ⟨p, q, e1, e2⟩ := insert_edge ho hocc
      have hne : ¬ xM g rule conj to ∈ p ++ q := fun hm => ho ((mem_edges g _).1 (e1 ▸ hm))
      have hlen : (p ++ q).length ≤ 131072 := e1 ▸ hl
      have e2' : edgesOf h = p ++ xM g rule conj to :: q := e2
      rw [e1, e2']
      have := more_head K g rule conj to p q hne (by omega) p.length 0 K (by omega) (by rw [List.length_append] at hlen; omega)
      exact ⟨_, this, .inr (by simp only [List.length_append, List.length_cons]; omega)⟩
  obtain ⟨q, hq, hlen⟩ := key
  rw [hq]
  simp only [brk, Option.bind_some]
  rw [if_pos trivial, has_spec K _ _ (by omega) (by omega), Option.bind_some, decide_eq_true ((mem_edges h _).2 hx), if_pos rfl, wr (by omega) (by omega), decide_eq_true (by omega)]
theorem DependsMore_holds (g : Grammar) (a b c : Int) (w : wfGrammar g) (_ : wfI .i64 a) (_ : wfI .i64 b) (_ : wfI .i64 c) : ∃ K, templelaw6_DependsMore K g a b c = some true := ⟨KW, DependsMore_true KW (Nat.le_refl _) g (SzG_wf w) a b c⟩
end Go.Proofs.Ytnkpelhaablheaa
