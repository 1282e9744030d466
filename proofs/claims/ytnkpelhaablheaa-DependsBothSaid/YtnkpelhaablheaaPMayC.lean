/-
  gram.May and the reference's May say the same: rules. Own work; no claim stands here.
-/
import Derived.Test.YtnkpelhaablheaaPMayB
namespace Go.Proofs.Ytnkpelhaablheaa
open S
set_option linter.unusedVariables false
set_option linter.unusedSimpArgs false
set_option maxRecDepth 100000

def symP (s : Symbol) (n : Int) : Prop := (s.Name = -1 ∧ 0 ≤ s.Lo ∧ s.Lo ≤ s.Hi ∧ s.Hi ≤ 255) ∨ (0 ≤ s.Name ∧ s.Name < n ∧ s.Lo = 0 ∧ s.Hi = 0)
theorem symbol_spec (K : Nat) (s : Symbol) (n : Int) : ∃ b, gram_symbol K s n = some b ∧ (b = true ↔ symP s n) := by
  unfold gram_symbol symP
  repeat' split
  all_goals refine ⟨_, rfl, ?_⟩
  all_goals simp only [decide_eq_true_eq, Bool.false_eq_true, false_iff]
  all_goals omega
theorem rsymbol_spec (K : Nat) (s : Symbol) (n : Int) : ∃ b, templeref1_symbolMay K s n = some b ∧ (b = true ↔ symP s n) := by
  unfold templeref1_symbolMay symP
  repeat' split
  all_goals refine ⟨_, rfl, ?_⟩
  all_goals simp only [decide_eq_true_eq, Bool.false_eq_true, false_iff]
  all_goals omega
instance (s : Symbol) (n : Int) : Decidable (symP s n) := by unfold symP; infer_instance
def conjP (n : Int) (c : Conjunct) : Prop := c.Seq.length ≤ 64 ∧ ∀ s ∈ c.Seq, symP s n
instance (n : Int) (c : Conjunct) : Decidable (conjP n c) := by unfold conjP; infer_instance
def ruleP (n : Int) (r : Rule) : Prop := 1 ≤ r.Conj.length ∧ r.Conj.length ≤ 8 ∧ ∀ c ∈ r.Conj, conjP n c
instance (n : Int) (r : Rule) : Decidable (ruleP n r) := by unfold ruleP; infer_instance
def sumC : List Conjunct → Nat
  | [] => 0
  | c :: cs => c.Seq.length + sumC cs
def sumR (r : Rule) : Nat := sumC r.Conj
theorem all_rd {T : Type} [Inhabited T] {xs : List T} {p : T → Prop} : (∀ i, i < xs.length → p (rd xs (i : Int))) ↔ ∀ x ∈ xs, p x := by
  constructor
  · intro h x hx
    obtain ⟨i, hi, rfl⟩ := List.getElem_of_mem hx
    have := h i hi
    rwa [rd_nat, List.getD_eq_getElem?_getD, List.getElem?_eq_getElem hi] at this
  · intro h i hi
    exact h _ (rd_mem (Int.natCast_nonneg i) (by omega))
/-- A loop that asks each, within another one. -/
theorem ask_all2 {ρ : Type} {n K : Nat} {L : Nat → Int → Option (Int ⊕ ρ)} {p : Nat → Prop} {no : ρ} (hn : n < K) (step : ∀ m i, i < n → (p i ∧ L (m + 1) (i : Int) = L m ((i : Int) + 1)) ∨ (¬ p i ∧ L (m + 1) (i : Int) = some (.inr no)))
    (stop : ∀ m, L (m + 1) (n : Int) = some (.inl (n : Int))) : (L K 0 = some (.inl (n : Int)) ∧ ∀ i, i < n → p i) ∨ (L K 0 = some (.inr no) ∧ ¬ ∀ i, i < n → p i) := by
  have key : ∀ k i m, i + k = n → k < m → (L m (i : Int) = some (.inl (n : Int)) ∧ ∀ j, i ≤ j → j < n → p j) ∨ (L m (i : Int) = some (.inr no) ∧ ¬ ∀ j, i ≤ j → j < n → p j) := by
    intro k
    induction k with
    | zero =>
      intro i m hi hm
      obtain ⟨m, rfl⟩ : ∃ q, m = q + 1 := ⟨m - 1, by omega⟩
      have : i = n := by omega
      subst this
      exact .inl ⟨stop m, fun j h1 h2 => by omega⟩
    | succ k ih =>
      intro i m hi hm
      obtain ⟨m, rfl⟩ : ∃ q, m = q + 1 := ⟨m - 1, by omega⟩
      rcases step m i (by omega) with ⟨hp, he⟩ | ⟨hp, he⟩
      · rw [he]
        have := ih (i + 1) m (by omega) (by omega)
        rw [show ((i + 1 : Nat) : Int) = (i : Int) + 1 by omega] at this
        rcases this with ⟨h1, h2⟩ | ⟨h1, h2⟩
        · refine .inl ⟨h1, fun j q1 q2 => ?_⟩
          rcases Nat.eq_or_lt_of_le q1 with rfl | q1
          · exact hp
          · exact h2 j q1 q2
        · exact .inr ⟨h1, fun h => h2 fun j q1 q2 => h j (by omega) q2⟩
      · exact .inr ⟨he, fun h => hp (h i (Nat.le_refl _) (by omega))⟩
  have := key n 0 K (by omega) hn
  rw [show ((0 : Nat) : Int) = 0 from rfl] at this
  rcases this with ⟨h1, h2⟩ | ⟨h1, h2⟩
  · exact .inl ⟨h1, fun i hi => h2 i (Nat.zero_le _) hi⟩
  · exact .inr ⟨h1, fun h => h2 fun j _ hj => h j hj⟩

def ruleB (n : Int) (s : Int) (c : Conjunct) : Int ⊕ (Int × Bool) := if conjP n c then .inl (s + (c.Seq.length : Int)) else .inr (0, false)
theorem ruleB_run (n : Int) : ∀ (cs : List Conjunct) (s : Int), (runL (ruleB n) s cs = .inl (s + (sumC cs : Int)) ∧ ∀ c ∈ cs, conjP n c) ∨ (runL (ruleB n) s cs = .inr (0, false) ∧ ¬ ∀ c ∈ cs, conjP n c)
  | [], s => .inl ⟨by simp [runL, sumC], by simp⟩
  | c :: cs, s => by
    unfold runL ruleB
    by_cases h : conjP n c
    · rw [if_pos h]
      rcases ruleB_run n cs (s + (c.Seq.length : Int)) with ⟨h1, h2⟩ | ⟨h1, h2⟩
      · refine .inl ⟨?_, fun q hq => ?_⟩
        · show runL (ruleB n) _ cs = _
          rw [h1, sumC]; push_cast; rw [Int.add_assoc]
        · rcases List.mem_cons.1 hq with rfl | hq
          · exact h
          · exact h2 q hq
      · exact .inr ⟨h1, fun h3 => h2 fun q hq => h3 q (.tail _ hq)⟩
    · rw [if_neg h]; exact .inr ⟨rfl, fun h3 => h (h3 c (.head _))⟩
theorem sumC_le {n : Int} : ∀ {cs : List Conjunct}, (∀ c ∈ cs, conjP n c) → sumC cs ≤ 64 * cs.length
  | [], _ => by simp [sumC]
  | c :: cs, h => by
    have h1 := (h c (.head _)).1
    have h2 := sumC_le (cs := cs) fun q hq => h q (.tail _ hq)
    rw [sumC, List.length_cons]; omega

theorem rule_spec (K : Nat) (hK : 1000 ≤ K) (r : Rule) (n : Int) : (gram_rule K r n = some ((sumR r : Int), true) ∧ ruleP n r) ∨ (∃ q, gram_rule K r n = some (q, false) ∧ ¬ ruleP n r) := by
  unfold gram_rule
  by_cases h1 : (r.Conj.length : Int) < 1
  · rw [if_pos h1]; exact .inr ⟨_, rfl, fun h => by have := h.1; omega⟩
  rw [if_neg h1]
  by_cases h2 : 8 < (r.Conj.length : Int)
  · rw [if_pos h2]; exact .inr ⟨_, rfl, fun h => by have := h.2.1; omega⟩
  rw [if_neg h2]
  have hs := scanL r.Conj (gram_rule.l0 K r n) (ruleB n) (fun i s => 0 ≤ s ∧ s ≤ 64 * i) (fun m s i hi hI => by
    unfold ruleB
    simp only [gram_rule.l0]
    rw [if_pos (by omega), if_pos (Int.natCast_nonneg i), wr (a := (i : Int) + 1) (by omega) (by omega)]
    by_cases h64 : 64 < ((rd r.Conj (i : Int)).Seq.length : Int)
    · rw [if_pos h64, if_neg (fun h => by have := h.1; omega)]
    rw [if_neg h64, wr (by omega) (by omega)]
    rcases ask_all2 (n := (rd r.Conj (i : Int)).Seq.length) (K := K) (L := gram_rule.l1 K r n i) (p := fun j => symP (rd (rd r.Conj (i : Int)).Seq (j : Int)) n) (by omega) (fun m j hj => by
      obtain ⟨b, hb, hp⟩ := symbol_spec K (⟨(rd ((rd r.Conj (i : Int)).Seq) (j : Int)).Name, (rd ((rd r.Conj (i : Int)).Seq) (j : Int)).Lo, (rd ((rd r.Conj (i : Int)).Seq) (j : Int)).Hi⟩ : Symbol) n
      simp only [gram_rule.l1]
      rw [if_pos (by omega), if_pos (Int.natCast_nonneg j), hb, Option.bind_some, wr (a := (j : Int) + 1) (by omega) (by omega)]
      cases b with
      | true => exact .inl ⟨hp.1 rfl, rfl⟩
      | false => exact .inr ⟨fun h => absurd (hp.2 h) (by decide), rfl⟩) (fun m => by simp only [gram_rule.l1]; rw [if_neg (by omega)]) with ⟨h4, h5⟩ | ⟨h4, h5⟩
    · rw [h4, if_pos ⟨by omega, all_rd.1 h5⟩]; rfl
    · rw [h4, if_neg (fun h => h5 (all_rd.2 h.2))]; rfl) (fun m s => by simp only [gram_rule.l0]; rw [if_neg (by omega)]) (fun s i hi hI s' h => by
      unfold ruleB at h
      split at h
      · rename_i hc
        cases h
        have := hc.1
        exact ⟨by omega, by push_cast; omega⟩
      · cases h) K (by omega) 0 ⟨by omega, by omega⟩
  rw [hs]
  rcases ruleB_run n r.Conj 0 with ⟨h4, h5⟩ | ⟨h4, h5⟩
  · rw [h4]; exact .inl ⟨by simp only [brk, Option.bind_some, Int.zero_add]; rfl, by omega, by omega, h5⟩
  · rw [h4]; exact .inr ⟨0, rfl, fun h => h5 h.2.2⟩
theorem rrule_spec (K : Nat) (hK : 1000 ≤ K) (r : Rule) (n : Int) : (templeref1_ruleMay K r n = some ((sumR r : Int), true) ∧ ruleP n r) ∨ (∃ q, templeref1_ruleMay K r n = some (q, false) ∧ ¬ ruleP n r) := by
  unfold templeref1_ruleMay
  by_cases h1 : (r.Conj.length : Int) < 1
  · rw [if_pos h1]; exact .inr ⟨_, rfl, fun h => by have := h.1; omega⟩
  rw [if_neg h1]
  by_cases h2 : 8 < (r.Conj.length : Int)
  · rw [if_pos h2]; exact .inr ⟨_, rfl, fun h => by have := h.2.1; omega⟩
  rw [if_neg h2]
  have hs := scanL r.Conj (templeref1_ruleMay.l0 K r n) (ruleB n) (fun i s => 0 ≤ s ∧ s ≤ 64 * i) (fun m s i hi hI => by
    unfold ruleB
    simp only [templeref1_ruleMay.l0]
    rw [if_pos (by omega), if_pos (Int.natCast_nonneg i), wr (a := (i : Int) + 1) (by omega) (by omega)]
    by_cases h64 : 64 < ((rd r.Conj (i : Int)).Seq.length : Int)
    · rw [if_pos h64, if_neg (fun h => by have := h.1; omega)]
    rw [if_neg h64, wr (by omega) (by omega)]
    rcases ask_all2 (n := (rd r.Conj (i : Int)).Seq.length) (K := K) (L := templeref1_ruleMay.l1 K r n i) (p := fun j => symP (rd (rd r.Conj (i : Int)).Seq (j : Int)) n) (by omega) (fun m j hj => by
      obtain ⟨b, hb, hp⟩ := rsymbol_spec K (rd ((rd r.Conj (i : Int)).Seq) (j : Int)) n
      simp only [templeref1_ruleMay.l1]
      rw [if_pos (by omega), if_pos (Int.natCast_nonneg j), hb, Option.bind_some, wr (a := (j : Int) + 1) (by omega) (by omega)]
      cases b with
      | true => exact .inl ⟨hp.1 rfl, rfl⟩
      | false => exact .inr ⟨fun h => absurd (hp.2 h) (by decide), rfl⟩) (fun m => by simp only [templeref1_ruleMay.l1]; rw [if_neg (by omega)]) with ⟨h4, h5⟩ | ⟨h4, h5⟩
    · rw [h4, if_pos ⟨by omega, all_rd.1 h5⟩]; rfl
    · rw [h4, if_neg (fun h => h5 (all_rd.2 h.2))]; rfl) (fun m s => by simp only [templeref1_ruleMay.l0]; rw [if_neg (by omega)]) (fun s i hi hI s' h => by
      unfold ruleB at h
      split at h
      · rename_i hc
        cases h
        have := hc.1
        exact ⟨by omega, by push_cast; omega⟩
      · cases h) K (by omega) 0 ⟨by omega, by omega⟩
  rw [hs]
  rcases ruleB_run n r.Conj 0 with ⟨h4, h5⟩ | ⟨h4, h5⟩
  · rw [h4]; exact .inl ⟨by simp only [brk, Option.bind_some, Int.zero_add]; rfl, by omega, by omega, h5⟩
  · rw [h4]; exact .inr ⟨0, rfl, fun h => h5 h.2.2⟩

/-! ## All rules -/
def chainP (n : Int) : Int → List Rule → Prop
  | h, [] => h = n - 1
  | h, r :: rs => ruleP n r ∧ (r.Head = h ∨ r.Head = h + 1) ∧ chainP n r.Head rs
def total : List Rule → Nat
  | [] => 0
  | r :: rs => sumR r + total rs
/-- Which grammars may be. -/
def mayP (g : Grammar) : Prop := namesP g.Names ∧ 0 ≤ g.Start ∧ g.Start < (g.Names.length : Int) ∧ 1 ≤ g.Rules.length ∧ g.Rules.length ≤ 256 ∧ (rd g.Rules 0).Head = 0 ∧ chainP (g.Names.length : Int) (-1) g.Rules ∧ total g.Rules ≤ 1024
def gB (n : Int) (s : Int × Int) (r : Rule) : (Int × Int) ⊕ Bool := if ruleP n r then if r.Head < s.1 then .inr false else if s.1 + 1 < r.Head then .inr false else if 1024 < s.2 + (sumR r : Int) then .inr false else .inl (r.Head, s.2 + (sumR r : Int)) else .inr false
theorem gB_run (n : Int) : ∀ (rs : List Rule) (s : Int × Int), s.2 ≤ 1024 → ((∃ s', runL (gB n) s rs = .inl s' ∧ (s'.1 = n - 1 ↔ chainP n s.1 rs)) ∧ s.2 + (total rs : Int) ≤ 1024) ∨ (runL (gB n) s rs = .inr false ∧ ¬ (chainP n s.1 rs ∧ s.2 + (total rs : Int) ≤ 1024))
  | [], s, hs => .inl ⟨⟨s, rfl, Iff.rfl⟩, by simp [total]; omega⟩
  | r :: rs, s, hs => by
    unfold runL gB chainP total
    by_cases h1 : ruleP n r
    · rw [if_pos h1]
      by_cases h2 : r.Head < s.1
      · rw [if_pos h2]; exact .inr ⟨rfl, fun h => by have := h.1.2.1; omega⟩
      rw [if_neg h2]
      by_cases h3 : s.1 + 1 < r.Head
      · rw [if_pos h3]; exact .inr ⟨rfl, fun h => by have := h.1.2.1; omega⟩
      rw [if_neg h3]
      by_cases h4 : 1024 < s.2 + (sumR r : Int)
      · rw [if_pos h4]; exact .inr ⟨rfl, fun h => by have := h.2; push_cast at this; omega⟩
      rw [if_neg h4]
      rcases gB_run n rs (r.Head, s.2 + (sumR r : Int)) (by simp only; omega) with ⟨⟨s', h5, h6⟩, h7⟩ | ⟨h5, h6⟩
      · refine .inl ⟨⟨s', h5, h6.trans ⟨fun h => ⟨h1, by omega, h⟩, fun h => h.2.2⟩⟩, ?_⟩
        simp only at h7; push_cast; omega
      · refine .inr ⟨h5, fun h => h6 ⟨h.1.2.2, ?_⟩⟩
        have := h.2; push_cast at this; simp only; omega
    · rw [if_neg h1]; exact .inr ⟨rfl, fun h => h1 h.1.1⟩
theorem sumR_le {n : Int} {r : Rule} (h : ruleP n r) : sumR r ≤ 512 := by
  have := sumC_le h.2.2
  have := h.2.1
  unfold sumR; omega
theorem gMay_spec (K : Nat) (hK : 1000 ≤ K) (g : Grammar) : ∃ b, gram_May K g = some b ∧ (b = true ↔ mayP g) := by
  unfold gram_May mayP
  obtain ⟨b, hb, hn⟩ := names_spec K hK g.Names
  rw [hb, Option.bind_some]
  cases b with
  | false => exact ⟨_, rfl, by simp only [Bool.false_eq_true, false_iff]; exact fun h => absurd (hn.2 h.1) (by decide)⟩
  | true =>
  rw [if_neg (by decide)]
  have hnm := hn.1 rfl
  by_cases h1 : g.Start < 0
  · rw [if_pos h1]; exact ⟨_, rfl, by simp only [Bool.false_eq_true, false_iff]; exact fun h => by have := h.2.1; omega⟩
  rw [if_neg h1]
  by_cases h2 : (g.Names.length : Int) ≤ g.Start
  · rw [if_pos h2]; exact ⟨_, rfl, by simp only [Bool.false_eq_true, false_iff]; exact fun h => by have := h.2.2.1; omega⟩
  rw [if_neg h2]
  by_cases h3 : (g.Rules.length : Int) < 1
  · rw [if_pos h3]; exact ⟨_, rfl, by simp only [Bool.false_eq_true, false_iff]; exact fun h => by have := h.2.2.2.1; omega⟩
  rw [if_neg h3]
  by_cases h4 : 256 < (g.Rules.length : Int)
  · rw [if_pos h4]; exact ⟨_, rfl, by simp only [Bool.false_eq_true, false_iff]; exact fun h => by have := h.2.2.2.2.1; omega⟩
  rw [if_neg h4]
  have hs := scanL (τ := Int × Int) (ρ := Bool) g.Rules (fun m s => (gram_May.l0 K g m (s.1.1, s.1.2, s.2)).map fun | .inl (a, b, c) => .inl ((a, b), c) | .inr r => .inr r) (gB (g.Names.length : Int)) (fun i s => -1 ≤ s.1 ∧ s.1 ≤ i ∧ 0 ≤ s.2 ∧ s.2 ≤ 1024) (fun m s i hi hI => by
    unfold gB
    simp only [gram_May.l0]
    rw [if_pos (by omega), if_pos (Int.natCast_nonneg i), wr (a := (i : Int) + 1) (by omega) (by omega)]
    rcases rule_spec K hK (rd g.Rules (i : Int)) (g.Names.length : Int) with ⟨h5, h6⟩ | ⟨q, h5, h6⟩
    · have := sumR_le h6
      rw [h5, Option.bind_some, if_pos h6]
      simp only [Bool.not_true, Bool.false_eq_true, if_false]
      rw [wr (a := s.1 + 1) (by omega) (by omega), wr (a := s.2 + (sumR (rd g.Rules (i : Int)) : Int)) (by omega) (by omega)]
      repeat' split
      all_goals first | rfl | (rename_i h; cases h; done) | skip
      all_goals (rename_i h; cases h; rfl)
    · rw [h5, Option.bind_some, if_neg h6]; rfl) (fun m s => by simp only [gram_May.l0]; rw [if_neg (by omega)]; rfl) (fun s i hi hI s' h => by
    unfold gB at h
    split at h
    · split at h
      · cases h
      · split at h
        · cases h
        · split at h
          · cases h
          · cases h; exact ⟨by simp only; omega, by simp only; push_cast; omega, by simp only; omega, by simp only; omega⟩
    · cases h) K (by omega) (-1, 0) ⟨by decide, by decide, by decide, by decide⟩
  have hpos : 0 < (g.Rules.length : Int) := by omega
  rcases gB_run (g.Names.length : Int) g.Rules (-1, 0) (by decide) with ⟨⟨s', h5, h6⟩, h7⟩ | ⟨h5, h6⟩
  · rw [h5] at hs
    have e : ∃ c, gram_May.l0 K g K (-1, 0, 0) = some (.inl (s'.1, s'.2, c)) := by
      simp only at hs
      cases hl : gram_May.l0 K g K (-1, 0, 0) with
      | none => rw [hl] at hs; cases hs
      | some x =>
        rw [hl] at hs
        cases x with
        | inl x => obtain ⟨a, b, c⟩ := x; simp only [Option.map_some, Option.some.injEq, Sum.inl.injEq, Prod.mk.injEq] at hs; exact ⟨c, by rw [← hs.1]⟩
        | inr q => cases hs
    obtain ⟨c, hl⟩ := e
    rw [hl]
    simp only [brk, Option.bind_some]
    rw [if_pos hpos]
    have hn64 := hnm.2.1
    by_cases h8 : (rd g.Rules 0).Head = 0
    · rw [if_pos h8]
      refine ⟨_, rfl, ?_⟩
      rw [decide_eq_true_eq, wr (by omega) (by omega), h6]
      simp only at h7
      exact ⟨fun h => ⟨hnm, by omega, by omega, by omega, by omega, h8, h, by omega⟩, fun h => h.2.2.2.2.2.2.1⟩
    · rw [if_neg h8]
      exact ⟨_, rfl, by simp only [Bool.false_eq_true, false_iff]; exact fun h => h8 h.2.2.2.2.2.1⟩
  · rw [h5] at hs
    have e : gram_May.l0 K g K (-1, 0, 0) = some (.inr false) := by
      simp only at hs
      cases hl : gram_May.l0 K g K (-1, 0, 0) with
      | none => rw [hl] at hs; cases hs
      | some x =>
        rw [hl] at hs
        cases x with
        | inl x => cases hs
        | inr q => cases hs; rfl
    rw [e]
    refine ⟨false, rfl, ?_⟩
    simp only [Bool.false_eq_true, false_iff]
    exact fun h => h6 ⟨h.2.2.2.2.2.2.1, by have := h.2.2.2.2.2.2.2; simp only; omega⟩
theorem chain_le {n : Int} : ∀ {rs : List Rule} {h : Int}, chainP n h rs → h ≤ n - 1
  | [], h, hc => by rw [chainP] at hc; omega
  | r :: rs, h, hc => by
    rw [chainP] at hc
    have := chain_le hc.2.2
    omega
def rB (n : Int) (s : Int × Int) (r : Rule) : (Int × Int) ⊕ Bool := if r.Head < 0 then .inr false else if r.Head ≠ s.1 ∧ r.Head ≠ s.1 + 1 then .inr false else if n ≤ r.Head then .inr false else if ruleP n r then .inl (r.Head, s.2 + (sumR r : Int)) else .inr false
theorem rB_run (n : Int) : ∀ (rs : List Rule) (s : Int × Int), 0 ≤ s.1 ∨ (∃ r rs', rs = r :: rs' ∧ (0 ≤ r.Head ∨ ¬ chainP n s.1 rs)) ∨ rs = [] → (∃ s', runL (rB n) s rs = .inl s' ∧ (s'.1 = n - 1 ↔ chainP n s.1 rs) ∧ s'.2 = s.2 + (total rs : Int)) ∨ (runL (rB n) s rs = .inr false ∧ (¬ chainP n s.1 rs))
  | [], s, hs => .inl ⟨s, rfl, Iff.rfl, by simp [total]⟩
  | r :: rs, s, hs => by
    unfold runL rB total
    by_cases h0 : r.Head < 0
    · rw [if_pos h0]
      refine .inr ⟨rfl, fun h => ?_⟩
      rw [chainP] at h
      rcases hs with hs | ⟨r', rs', e, hs | hs⟩ | e
      · omega
      · cases e; omega
      · cases e; exact hs (by rw [chainP]; exact h)
      · cases e
    rw [if_neg h0]
    by_cases h2 : r.Head ≠ s.1 ∧ r.Head ≠ s.1 + 1
    · rw [if_pos h2]; exact .inr ⟨rfl, fun h => by rw [chainP] at h; omega⟩
    rw [if_neg h2]
    by_cases h3 : n ≤ r.Head
    · rw [if_pos h3]; exact .inr ⟨rfl, fun h => by rw [chainP] at h; have := chain_le h.2.2; omega⟩
    rw [if_neg h3]
    by_cases h1 : ruleP n r
    · rw [if_pos h1]
      rcases rB_run n rs (r.Head, s.2 + (sumR r : Int)) (.inl (by simp only; omega)) with ⟨s', h5, h6, h7⟩ | ⟨h5, h6⟩
      · refine .inl ⟨s', h5, h6.trans ?_, by rw [h7]; simp only; push_cast; omega⟩
        rw [chainP]
        exact ⟨fun h => ⟨h1, by omega, h⟩, fun h => h.2.2⟩
      · exact .inr ⟨h5, fun h => h6 (by rw [chainP] at h; exact h.2.2)⟩
    · rw [if_neg h1]; exact .inr ⟨rfl, fun h => by rw [chainP] at h; exact h1 h.1⟩
theorem rMay_spec (K : Nat) (hK : 1000 ≤ K) (g : Grammar) : ∃ b, templeref1_May K g = some b ∧ (b = true ↔ mayP g) := by
  unfold templeref1_May mayP
  by_cases h1 : (g.Names.length : Int) < 1
  · rw [if_pos h1]; exact ⟨_, rfl, by simp only [Bool.false_eq_true, false_iff]; exact fun h => by have := h.1.1; omega⟩
  rw [if_neg h1]
  by_cases h2 : 64 < (g.Names.length : Int)
  · rw [if_pos h2]; exact ⟨_, rfl, by simp only [Bool.false_eq_true, false_iff]; exact fun h => by have := h.1.2.1; omega⟩
  rw [if_neg h2]
  by_cases h3 : g.Start < 0
  · rw [if_pos h3]; exact ⟨_, rfl, by simp only [Bool.false_eq_true, false_iff]; exact fun h => by have := h.2.1; omega⟩
  rw [if_neg h3]
  by_cases h4 : (g.Names.length : Int) ≤ g.Start
  · rw [if_pos h4]; exact ⟨_, rfl, by simp only [Bool.false_eq_true, false_iff]; exact fun h => by have := h.2.2.1; omega⟩
  rw [if_neg h4]
  by_cases h5 : (g.Rules.length : Int) < 1
  · rw [if_pos h5]; exact ⟨_, rfl, by simp only [Bool.false_eq_true, false_iff]; exact fun h => by have := h.2.2.2.1; omega⟩
  rw [if_neg h5]
  by_cases h6 : 256 < (g.Rules.length : Int)
  · rw [if_pos h6]; exact ⟨_, rfl, by simp only [Bool.false_eq_true, false_iff]; exact fun h => by have := h.2.2.2.2.1; omega⟩
  rw [if_neg h6]
  rcases rnames_spec K hK g (by omega) (by omega) with ⟨h7, h8⟩ | ⟨h7, h8⟩
  rotate_left
  · rw [h7]; exact ⟨false, rfl, by simp only [Bool.false_eq_true, false_iff]; exact fun h => h8 h.1⟩
  rw [h7]
  simp only [brk, Option.bind_some]
  have hs := scanL (τ := Int × Int) (ρ := Bool) g.Rules (fun m s => (templeref1_May.l1 K g m (s.1.1, s.1.2, s.2)).map fun | .inl (a, b, c) => .inl ((a, b), c) | .inr r => .inr r) (rB (g.Names.length : Int)) (fun i s => -1 ≤ s.1 ∧ s.1 ≤ i ∧ 0 ≤ s.2 ∧ s.2 ≤ 512 * i) (fun m s i hi hI => by
    unfold rB
    simp only [templeref1_May.l1]
    rw [if_pos (by omega), if_pos (Int.natCast_nonneg i), wr (a := (i : Int) + 1) (by omega) (by omega), wr (a := s.1 + 1) (by omega) (by omega)]
    by_cases q0 : (rd g.Rules (i : Int)).Head < 0
    · rw [if_pos q0, if_pos q0]; rfl
    rw [if_neg q0, if_neg q0]
    by_cases q1 : (rd g.Rules (i : Int)).Head ≠ s.1 ∧ (rd g.Rules (i : Int)).Head ≠ s.1 + 1
    · rw [if_pos q1.1, if_pos q1.2, if_pos q1]; rfl
    rw [if_neg q1]
    by_cases q2 : (g.Names.length : Int) ≤ (rd g.Rules (i : Int)).Head
    · rw [if_pos q2, if_pos q2]
      by_cases q3 : (rd g.Rules (i : Int)).Head ≠ s.1
      · rw [if_pos q3, if_neg (fun h => q1 ⟨q3, h⟩)]; rfl
      · rw [if_neg q3]; rfl
    rw [if_neg q2, if_neg q2]
    have e : (if (rd g.Rules (i : Int)).Head ≠ s.1 then if (rd g.Rules (i : Int)).Head ≠ s.1 + 1 then some (.inr (.inr false)) else some (.inl ()) else some (.inl ()) : Option (Unit ⊕ ((Int × Int × Int) ⊕ Bool))) = some (.inl ()) := by
      by_cases q3 : (rd g.Rules (i : Int)).Head ≠ s.1
      · rw [if_pos q3, if_neg (fun h => q1 ⟨q3, h⟩)]
      · rw [if_neg q3]
    rw [e]
    simp only [brk, Option.bind_some]
    rcases rrule_spec K hK (rd g.Rules (i : Int)) (g.Names.length : Int) with ⟨q5, q6⟩ | ⟨q, q5, q6⟩
    · have := sumR_le q6
      rw [q5, Option.bind_some, if_pos q6]
      simp only [Bool.not_true, Bool.false_eq_true, if_false]
      rw [wr (a := s.2 + (sumR (rd g.Rules (i : Int)) : Int)) (by omega) (by omega)]
    · rw [q5, Option.bind_some, if_neg q6]; rfl) (fun m s => by simp only [templeref1_May.l1]; rw [if_neg (by omega)]; rfl) (fun s i hi hI s' h => by
    unfold rB at h
    split at h
    · cases h
    split at h
    · cases h
    split at h
    · cases h
    split at h
    · rename_i hr
      have := sumR_le hr
      cases h
      refine ⟨by simp only; omega, by simp only; push_cast; omega, by simp only; omega, by simp only; push_cast; omega⟩
    · cases h) K (by omega) (-1, 0) ⟨by decide, by decide, by decide, by decide⟩
  have hne : ∃ r rs', g.Rules = r :: rs' := by
    cases hr : g.Rules with
    | nil => rw [hr] at h5; simp at h5
    | cons r rs' => exact ⟨r, rs', rfl⟩
  obtain ⟨r0, rs0, hr0⟩ := hne
  have hrd : rd g.Rules 0 = r0 := by rw [hr0]; rfl
  -- a first head below zero: no chain that begins with zero
  by_cases hneg : r0.Head < 0
  · have e : runL (rB (g.Names.length : Int)) (-1, 0) g.Rules = .inr false := by rw [hr0]; unfold runL rB; rw [if_pos hneg]
    rw [e] at hs
    have e2 : templeref1_May.l1 K g K (-1, 0, 0) = some (.inr false) := by
      simp only at hs
      cases hl : templeref1_May.l1 K g K (-1, 0, 0) with
      | none => rw [hl] at hs; cases hs
      | some x =>
        rw [hl] at hs
        cases x with
        | inl x => cases hs
        | inr q => cases hs; rfl
    rw [e2]
    exact ⟨false, rfl, by simp only [Bool.false_eq_true, false_iff]; exact fun h => by have := h.2.2.2.2.2.1; rw [hrd] at this; omega⟩
  rcases rB_run (g.Names.length : Int) g.Rules (-1, 0) (.inr (.inl ⟨r0, rs0, hr0, .inl (by omega)⟩)) with ⟨s', q5, q6, q7⟩ | ⟨q5, q6⟩
  · rw [q5] at hs
    have e : ∃ c, templeref1_May.l1 K g K (-1, 0, 0) = some (.inl (s'.1, s'.2, c)) := by
      simp only at hs
      cases hl : templeref1_May.l1 K g K (-1, 0, 0) with
      | none => rw [hl] at hs; cases hs
      | some x =>
        rw [hl] at hs
        cases x with
        | inl x => obtain ⟨a, b, c⟩ := x; simp only [Option.map_some, Option.some.injEq, Sum.inl.injEq, Prod.mk.injEq] at hs; exact ⟨c, by rw [← hs.1]⟩
        | inr q => cases hs
    obtain ⟨c, hl⟩ := e
    rw [hl]
    simp only [Option.bind_some]
    rw [wr (by omega) (by omega)]
    simp only at q7 q6
    by_cases q8 : s'.1 = (g.Names.length : Int) - 1
    · rw [if_pos q8]
      refine ⟨_, rfl, ?_⟩
      rw [decide_eq_true_eq]
      have hc := q6.1 q8
      have hz : r0.Head = 0 := by
        have := hc; rw [hr0, chainP] at this; omega
      exact ⟨fun h => ⟨h8, by omega, by omega, by omega, by omega, hrd ▸ hz, hc, by omega⟩, fun h => by have := h.2.2.2.2.2.2.2; omega⟩
    · rw [if_neg q8]
      exact ⟨_, rfl, by simp only [Bool.false_eq_true, false_iff]; exact fun h => q8 (q6.2 h.2.2.2.2.2.2.1)⟩
  · rw [q5] at hs
    have e : templeref1_May.l1 K g K (-1, 0, 0) = some (.inr false) := by
      simp only at hs
      cases hl : templeref1_May.l1 K g K (-1, 0, 0) with
      | none => rw [hl] at hs; cases hs
      | some x =>
        rw [hl] at hs
        cases x with
        | inl x => cases hs
        | inr q => cases hs; rfl
    rw [e]
    exact ⟨false, rfl, by simp only [Bool.false_eq_true, false_iff]; exact fun h => q6 h.2.2.2.2.2.2.1⟩
/-- Both say the same. -/
theorem May_eq (K : Nat) (hK : 1000 ≤ K) (g : Grammar) : templeref1_May K g = gram_May K g := by
  obtain ⟨a, ha, ha'⟩ := gMay_spec K hK g
  obtain ⟨b, hb, hb'⟩ := rMay_spec K hK g
  rw [ha, hb]
  congr 1
  have : b = true ↔ a = true := hb'.trans ha'.symm
  cases a <;> cases b <;> simp_all
end Go.Proofs.Ytnkpelhaablheaa
