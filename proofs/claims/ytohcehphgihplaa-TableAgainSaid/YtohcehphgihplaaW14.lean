import Derived.Test.YtohcehphgihplaaW13
namespace Go.Proofs.Ytohcehphgihplaa
open S
set_option linter.unusedVariables false
end Go.Proofs.Ytohcehphgihplaa
namespace Go.Proofs.Ytohcehphgihplaa
open S
set_option linter.unusedVariables false
set_option linter.unusedSimpArgs false
set_option maxRecDepth 100000
end Go.Proofs.Ytohcehphgihplaa
namespace Go.Proofs.Ytohcehphgihplaa
open S Go.Sort
set_option linter.unusedVariables false
set_option linter.unusedSimpArgs false
set_option maxRecDepth 100000
end Go.Proofs.Ytohcehphgihplaa
namespace Go.Proofs.Ytohcehphgihplaa
open S Go.Sort
set_option linter.unusedVariables false
set_option linter.unusedSimpArgs false
set_option maxRecDepth 100000
end Go.Proofs.Ytohcehphgihplaa
namespace Go.Proofs.Ytohcehphgihplaa
open S
set_option linter.unusedVariables false
set_option linter.unusedSimpArgs false
set_option maxRecDepth 100000
theorem rletter_spec (K : Nat) (c : Int) : ∃ b, templeref1_letter K c = some b ∧ (b = true ↔ letterP c) := by
  unfold templeref1_letter letterP
  repeat' split
  all_goals refine ⟨_, rfl, ?_⟩
  all_goals first | simp only [true_iff, decide_eq_true_eq] | skip
  all_goals omega
theorem rdigit_spec (K : Nat) (c : Int) : ∃ b, templeref1_digit K c = some b ∧ (b = true ↔ 48 ≤ c ∧ c ≤ 57) := by
  unfold templeref1_digit
  repeat' split
  all_goals refine ⟨_, rfl, ?_⟩
  all_goals simp only [decide_eq_true_eq, Bool.false_eq_true, false_iff]
  all_goals omega
theorem rName_spec (K : Nat) (hK : 1000 ≤ K) (s : ByteArray) : ∃ b, templeref1_nameMay K s = some b ∧ (b = true ↔ nameP s) := by
  unfold templeref1_nameMay nameP
  by_cases h1 : (s.size : Int) < 1
  · rw [if_pos h1]; exact ⟨_, rfl, by simp; omega⟩
  rw [if_neg h1]
  by_cases h2 : 32 < (s.size : Int)
  · rw [if_pos h2]; exact ⟨_, rfl, by simp; omega⟩
  rw [if_neg h2]
  have h0 : 0 < (s.size : Int) := by omega
  by_cases h3 : s = (⟨#[115, 116, 97, 114, 116]⟩ : ByteArray)
  · rw [if_pos h3]; exact ⟨_, rfl, by simp [h3]⟩
  rw [if_neg h3, if_pos h0]
  obtain ⟨b, hb, hl⟩ := rletter_spec K (bt s 0)
  rw [hb, Option.bind_some]
  cases b with
  | false => exact ⟨false, rfl, by simp only [Bool.false_eq_true, false_iff]; exact fun h => absurd (hl.2 h.2.2.2.1) (by decide)⟩
  | true =>
    rw [if_neg (by decide)]
    rcases ask_all (n := s.size) (K := K) (L := templeref1_nameMay.l0 K s) (p := fun i => moreP (bt s (i : Int))) (by omega) (fun m i hi => by
      obtain ⟨q, hq, hm⟩ := rletter_spec K (bt s (i : Int))
      obtain ⟨q2, hq2, hm2⟩ := rdigit_spec K (bt s (i : Int))
      simp only [templeref1_nameMay.l0]
      rw [if_pos (by omega), if_pos (Int.natCast_nonneg i), hq, Option.bind_some, wr (a := (i : Int) + 1) (by omega) (by omega)]
      unfold moreP
      cases q with
      | true => exact .inl ⟨.inl (hm.1 rfl), rfl⟩
      | false =>
        simp only [Bool.not_false, if_true, hq2, Option.bind_some]
        cases q2 with
        | true => exact .inl ⟨.inr (hm2.1 rfl), rfl⟩
        | false => exact .inr ⟨fun h => h.elim (fun h => absurd (hm.2 h) (by decide)) (fun h => absurd (hm2.2 h) (by decide)), rfl⟩) (fun m => by simp only [templeref1_nameMay.l0]; rw [if_neg (by omega)]) with ⟨h4, h5⟩ | ⟨h4, h5⟩
    · rw [h4]; exact ⟨true, rfl, by simp only [true_iff]; exact ⟨by omega, by omega, h3, hl.1 rfl, h5⟩⟩
    · rw [h4]; exact ⟨false, rfl, by simp only [Bool.false_eq_true, false_iff]; exact fun h => h5 h.2.2.2.2⟩
open Classical in
open Classical in
theorem find_spec (K : Nat) (hK : 1000 ≤ K) (ns : List ByteArray) (hl : ns.length ≤ 64) (s : ByteArray) : templeref1_find K ns s = some (match firstOf (fun i => if rd ns (i : Int) = s then some (i : Int) else none) ns.length 0 with | some i => i | none => -1) := by
  have := scan ns.length (templeref1_find.l0 K ns s) (fun i => if rd ns (i : Int) = s then some (i : Int) else none) (fun m i hi => by
    simp only [templeref1_find.l0]
    rw [if_pos (by omega), if_pos (Int.natCast_nonneg i), wr (a := (i : Int) + 1) (by omega) (by omega)]
    split <;> rfl) (fun m => by simp only [templeref1_find.l0]; rw [if_neg (by omega)]) ns.length 0 K (by omega) (by omega)
  rw [show ((0 : Nat) : Int) = 0 from rfl] at this
  unfold templeref1_find
  rw [this]
  generalize firstOf _ _ _ = o
  cases o <;> rfl
theorem find_at (K : Nat) (hK : 1000 ≤ K) (ns : List ByteArray) (hl : ns.length ≤ 64) (i : Nat) (hi : i < ns.length) : ∃ q, templeref1_find K ns (rd ns (i : Int)) = some q ∧ (q = (i : Int) ↔ ∀ j : Nat, j < i → rd ns (j : Int) ≠ rd ns (i : Int)) := by
  refine ⟨_, find_spec K hK ns hl _, ?_⟩
  cases hf : firstOf (fun k => if rd ns (k : Int) = rd ns (i : Int) then some (k : Int) else none) ns.length 0 with
  | none =>
    have := firstOf_none.1 hf i (by omega) (by omega)
    rw [if_pos rfl] at this; cases this
  | some r =>
    obtain ⟨j, _, h2, h3, h4⟩ := firstOf_some hf
    split at h3
    · rename_i he
      cases h3
      simp only
      constructor
      · intro e k hk hke
        have e : j = i := by omega
        subst e
        have := h4 k (by omega) hk
        rw [if_pos hke] at this; cases this
      · intro h
        rcases Nat.lt_trichotomy j i with hlt | rfl | hlt
        · exact absurd he (h j hlt)
        · rfl
        · have := h4 i (by omega) hlt
          rw [if_pos rfl] at this; cases this
    · cases h3
theorem rnames_spec (K : Nat) (hK : 1000 ≤ K) (g : Grammar) (h1 : 1 ≤ g.Names.length) (h2 : g.Names.length ≤ 64) : (templeref1_May.l0 K g K 0 = some (.inl (g.Names.length : Int)) ∧ namesP g.Names) ∨ (templeref1_May.l0 K g K 0 = some (.inr false) ∧ ¬ namesP g.Names) := by
  rcases ask_all (n := g.Names.length) (K := K) (L := templeref1_May.l0 K g) (p := fun i => nameP (rd g.Names (i : Int)) ∧ ∀ j : Nat, j < i → rd g.Names (j : Int) ≠ rd g.Names (i : Int)) (by omega) (fun m i hi => by
    obtain ⟨b, hb, hp⟩ := rName_spec K hK (rd g.Names (i : Int))
    obtain ⟨q, hq, hf⟩ := find_at K hK g.Names h2 i hi
    simp only [templeref1_May.l0]
    rw [if_pos (by omega), if_pos (Int.natCast_nonneg i), hb, Option.bind_some, wr (a := (i : Int) + 1) (by omega) (by omega)]
    cases b with
    | false => exact .inr ⟨fun h => absurd (hp.2 h.1) (by decide), rfl⟩
    | true =>
      rw [if_neg (by decide), hq, Option.bind_some]
      by_cases he : q = (i : Int)
      · rw [if_neg (fun h => h he)]; exact .inl ⟨⟨hp.1 rfl, hf.1 he⟩, rfl⟩
      · rw [if_pos he]; exact .inr ⟨fun h => he (hf.2 h.2), rfl⟩) (fun m => by simp only [templeref1_May.l0]; rw [if_neg (by omega)]) with ⟨h4, h5⟩ | ⟨h4, h5⟩
  · refine .inl ⟨h4, h1, h2, fun s hs => ?_, (nodup_rd _).2 fun i hi => (h5 i hi).2⟩
    obtain ⟨i, hi, rfl⟩ := List.getElem_of_mem hs
    have := (h5 i hi).1
    rwa [rd_nat, List.getD_eq_getElem?_getD, List.getElem?_eq_getElem hi] at this
  · exact .inr ⟨h4, fun h => h5 fun i hi => ⟨h.2.2.1 _ (rd_mem (Int.natCast_nonneg i) (by omega)), (nodup_rd _).1 h.2.2.2 i hi⟩⟩
end Go.Proofs.Ytohcehphgihplaa
namespace Go.Proofs.Ytohcehphgihplaa
open S
set_option linter.unusedVariables false
set_option linter.unusedSimpArgs false
set_option maxRecDepth 100000
theorem rsymbol_spec (K : Nat) (s : Symbol) (n : Int) : ∃ b, templeref1_symbolMay K s n = some b ∧ (b = true ↔ symP s n) := by
  unfold templeref1_symbolMay symP
  repeat' split
  all_goals refine ⟨_, rfl, ?_⟩
  all_goals simp only [decide_eq_true_eq, Bool.false_eq_true, false_iff]
  all_goals omega
theorem rrule_spec (K : Nat) (hK : 1000 ≤ K) (r : Rule) (n : Int) : (templeref1_ruleMay K r n = some ((sumR r : Int), true) ∧ ruleP n r) ∨ (∃ q, templeref1_ruleMay K r n = some (q, false) ∧ ¬ ruleP n r) := by
  unfold templeref1_ruleMay
  by_cases h1 : (r.Conj.length : Int) < 1
  · rw [if_pos h1]; exact .inr ⟨_, rfl, fun h => by have := h.1; omega⟩
  rw [if_neg h1]
  by_cases h2 : 8 < (r.Conj.length : Int)
  · rw [if_pos h2]; exact .inr ⟨_, rfl, fun h => by have := h.2.1; omega⟩
  rw [if_neg h2]
  have hs := scanL r.Conj (templeref1_ruleMay.l0 K r n) (ruleB n) (fun i s => 0 ≤ s ∧ s ≤ 64 * i) (fun m s i hi hI => by
    unfold ruleB
    simp only [templeref1_ruleMay.l0]
    rw [if_pos (by omega), if_pos (Int.natCast_nonneg i), wr (a := (i : Int) + 1) (by omega) (by omega)]
    by_cases h64 : 64 < ((rd r.Conj (i : Int)).Seq.length : Int)
    · rw [if_pos h64, if_neg (fun h => by have := h.1; omega)]
    rw [if_neg h64, wr (by omega) (by omega)]
    rcases ask_all2 (n := (rd r.Conj (i : Int)).Seq.length) (K := K) (L := templeref1_ruleMay.l1 K r n i) (p := fun j => symP (rd (rd r.Conj (i : Int)).Seq (j : Int)) n) (by omega) (fun m j hj => by
      obtain ⟨b, hb, hp⟩ := rsymbol_spec K (rd ((rd r.Conj (i : Int)).Seq) (j : Int)) n
      simp only [templeref1_ruleMay.l1]
      rw [if_pos (by omega), if_pos (Int.natCast_nonneg j), hb, Option.bind_some, wr (a := (j : Int) + 1) (by omega) (by omega)]
      cases b with
      | true => exact .inl ⟨hp.1 rfl, rfl⟩
      | false => exact .inr ⟨fun h => absurd (hp.2 h) (by decide), rfl⟩) (fun m => by simp only [templeref1_ruleMay.l1]; rw [if_neg (by omega)]) with ⟨h4, h5⟩ | ⟨h4, h5⟩
    · rw [h4, if_pos ⟨by omega, all_rd.1 h5⟩]; rfl
    · rw [h4, if_neg (fun h => h5 (all_rd.2 h.2))]; rfl) (fun m s => by simp only [templeref1_ruleMay.l0]; rw [if_neg (by omega)]) (fun s i hi hI s' h => by
      unfold ruleB at h
      split at h
      · rename_i hc
        cases h
        have := hc.1
        exact ⟨by omega, by push_cast; omega⟩
      · cases h) K (by omega) 0 ⟨by omega, by omega⟩
  rw [hs]
  rcases ruleB_run n r.Conj 0 with ⟨h4, h5⟩ | ⟨h4, h5⟩
  · rw [h4]; exact .inl ⟨by simp only [brk, Option.bind_some, Int.zero_add]; rfl, by omega, by omega, h5⟩
  · rw [h4]; exact .inr ⟨0, rfl, fun h => h5 h.2.2⟩
theorem rMay_spec (K : Nat) (hK : 1000 ≤ K) (g : Grammar) : ∃ b, templeref1_May K g = some b ∧ (b = true ↔ mayP g) := by
  unfold templeref1_May mayP
  by_cases h1 : (g.Names.length : Int) < 1
  · rw [if_pos h1]; exact ⟨_, rfl, by simp only [Bool.false_eq_true, false_iff]; exact fun h => by have := h.1.1; omega⟩
  rw [if_neg h1]
  by_cases h2 : 64 < (g.Names.length : Int)
  · rw [if_pos h2]; exact ⟨_, rfl, by simp only [Bool.false_eq_true, false_iff]; exact fun h => by have := h.1.2.1; omega⟩
  rw [if_neg h2]
  by_cases h3 : g.Start < 0
  · rw [if_pos h3]; exact ⟨_, rfl, by simp only [Bool.false_eq_true, false_iff]; exact fun h => by have := h.2.1; omega⟩
  rw [if_neg h3]
  by_cases h4 : (g.Names.length : Int) ≤ g.Start
  · rw [if_pos h4]; exact ⟨_, rfl, by simp only [Bool.false_eq_true, false_iff]; exact fun h => by have := h.2.2.1; omega⟩
  rw [if_neg h4]
  by_cases h5 : (g.Rules.length : Int) < 1
  · rw [if_pos h5]; exact ⟨_, rfl, by simp only [Bool.false_eq_true, false_iff]; exact fun h => by have := h.2.2.2.1; omega⟩
  rw [if_neg h5]
  by_cases h6 : 256 < (g.Rules.length : Int)
  · rw [if_pos h6]; exact ⟨_, rfl, by simp only [Bool.false_eq_true, false_iff]; exact fun h => by have := h.2.2.2.2.1; omega⟩
  rw [if_neg h6]
  rcases rnames_spec K hK g (by omega) (by omega) with ⟨h7, h8⟩ | ⟨h7, h8⟩
  rotate_left
  · rw [h7]; exact ⟨false, rfl, by simp only [Bool.false_eq_true, false_iff]; exact fun h => h8 h.1⟩
  rw [h7]
  simp only [brk, Option.bind_some]
  have hs := scanL (τ := Int × Int) (ρ := Bool) g.Rules (fun m s => (templeref1_May.l1 K g m (s.1.1, s.1.2, s.2)).map fun | .inl (a, b, c) => .inl ((a, b), c) | .inr r => .inr r) (rB (g.Names.length : Int)) (fun i s => -1 ≤ s.1 ∧ s.1 ≤ i ∧ 0 ≤ s.2 ∧ s.2 ≤ 512 * i) (fun m s i hi hI => by
    unfold rB
    simp only [templeref1_May.l1]
    rw [if_pos (by omega), if_pos (Int.natCast_nonneg i), wr (a := (i : Int) + 1) (by omega) (by omega), wr (a := s.1 + 1) (by omega) (by omega)]
    by_cases q0 : (rd g.Rules (i : Int)).Head < 0
    · rw [if_pos q0, if_pos q0]; rfl
    rw [if_neg q0, if_neg q0]
    by_cases q1 : (rd g.Rules (i : Int)).Head ≠ s.1 ∧ (rd g.Rules (i : Int)).Head ≠ s.1 + 1
    · rw [if_pos q1.1, if_pos q1.2, if_pos q1]; rfl
    rw [if_neg q1]
    by_cases q2 : (g.Names.length : Int) ≤ (rd g.Rules (i : Int)).Head
    · rw [if_pos q2, if_pos q2]
      by_cases q3 : (rd g.Rules (i : Int)).Head ≠ s.1
      · rw [if_pos q3, if_neg (fun h => q1 ⟨q3, h⟩)]; rfl
      · rw [if_neg q3]; rfl
    rw [if_neg q2, if_neg q2]
    have e : (if (rd g.Rules (i : Int)).Head ≠ s.1 then if (rd g.Rules (i : Int)).Head ≠ s.1 + 1 then some (.inr (.inr false)) else some (.inl ()) else some (.inl ()) : Option (Unit ⊕ ((Int × Int × Int) ⊕ Bool))) = some (.inl ()) := by
      by_cases q3 : (rd g.Rules (i : Int)).Head ≠ s.1
      · rw [if_pos q3, if_neg (fun h => q1 ⟨q3, h⟩)]
      · rw [if_neg q3]
    rw [e]
    simp only [brk, Option.bind_some]
    rcases rrule_spec K hK (rd g.Rules (i : Int)) (g.Names.length : Int) with ⟨q5, q6⟩ | ⟨q, q5, q6⟩
    · have := sumR_le q6
      rw [q5, Option.bind_some, if_pos q6]
      simp only [Bool.not_true, Bool.false_eq_true, if_false]
      rw [wr (a := s.2 + (sumR (rd g.Rules (i : Int)) : Int)) (by omega) (by omega)]
    · rw [q5, Option.bind_some, if_neg q6]; rfl) (fun m s => by simp only [templeref1_May.l1]; rw [if_neg (by omega)]; rfl) (fun s i hi hI s' h => by
    unfold rB at h
    split at h
    · cases h
    split at h
    · cases h
    split at h
    · cases h
    split at h
    · rename_i hr
      have := sumR_le hr
      cases h
      refine ⟨by simp only; omega, by simp only; push_cast; omega, by simp only; omega, by simp only; push_cast; omega⟩
    · cases h) K (by omega) (-1, 0) ⟨by decide, by decide, by decide, by decide⟩
  have hne : ∃ r rs', g.Rules = r :: rs' := by
    cases hr : g.Rules with
    | nil => rw [hr] at h5; simp at h5
    | cons r rs' => exact ⟨r, rs', rfl⟩
  obtain ⟨r0, rs0, hr0⟩ := hne
  have hrd : rd g.Rules 0 = r0 := by rw [hr0]; rfl
  by_cases hneg : r0.Head < 0
  · have e : runL (rB (g.Names.length : Int)) (-1, 0) g.Rules = .inr false := by rw [hr0]; unfold runL rB; rw [if_pos hneg]
    rw [e] at hs
    have e2 : templeref1_May.l1 K g K (-1, 0, 0) = some (.inr false) := by
      simp only at hs
      cases hl : templeref1_May.l1 K g K (-1, 0, 0) with
      | none => rw [hl] at hs; cases hs
      | some x =>
        rw [hl] at hs
        cases x with
        | inl x => cases hs
        | inr q => cases hs; rfl
    rw [e2]
    exact ⟨false, rfl, by simp only [Bool.false_eq_true, false_iff]; exact fun h => by have := h.2.2.2.2.2.1; rw [hrd] at this; omega⟩
  rcases rB_run (g.Names.length : Int) g.Rules (-1, 0) (.inr (.inl ⟨r0, rs0, hr0, .inl (by omega)⟩)) with ⟨s', q5, q6, q7⟩ | ⟨q5, q6⟩
  · rw [q5] at hs
    have e : ∃ c, templeref1_May.l1 K g K (-1, 0, 0) = some (.inl (s'.1, s'.2, c)) := by
      simp only at hs
      cases hl : templeref1_May.l1 K g K (-1, 0, 0) with
      | none => rw [hl] at hs; cases hs
      | some x =>
        rw [hl] at hs
        cases x with
        | inl x => obtain ⟨a, b, c⟩ := x; simp only [Option.map_some, Option.some.injEq, Sum.inl.injEq, Prod.mk.injEq] at hs; exact ⟨c, by rw [← hs.1]⟩
        | inr q => cases hs
    obtain ⟨c, hl⟩ := e
    rw [hl]
    simp only [Option.bind_some]
    rw [wr (by omega) (by omega)]
    simp only at q7 q6
    by_cases q8 : s'.1 = (g.Names.length : Int) - 1
    · rw [if_pos q8]
      refine ⟨_, rfl, ?_⟩
      rw [decide_eq_true_eq]
      have hc := q6.1 q8
      have hz : r0.Head = 0 := by
        have := hc; rw [hr0, chainP] at this; omega
      exact ⟨fun h => ⟨h8, by omega, by omega, by omega, by omega, hrd ▸ hz, hc, by omega⟩, fun h => by have := h.2.2.2.2.2.2.2; omega⟩
    · rw [if_neg q8]
      exact ⟨_, rfl, by simp only [Bool.false_eq_true, false_iff]; exact fun h => q8 (q6.2 h.2.2.2.2.2.2.1)⟩
  · rw [q5] at hs
    have e : templeref1_May.l1 K g K (-1, 0, 0) = some (.inr false) := by
      simp only at hs
      cases hl : templeref1_May.l1 K g K (-1, 0, 0) with
      | none => rw [hl] at hs; cases hs
      | some x =>
        rw [hl] at hs
        cases x with
        | inl x => cases hs
        | inr q => cases hs; rfl
    rw [e]
    exact ⟨false, rfl, by simp only [Bool.false_eq_true, false_iff]; exact fun h => q6 h.2.2.2.2.2.2.1⟩
end Go.Proofs.Ytohcehphgihplaa
namespace Go.Proofs.Ytohcehphgihplaa
open S Go.Sort
set_option linter.unusedVariables false
set_option linter.unusedSimpArgs false
set_option maxRecDepth 100000
end Go.Proofs.Ytohcehphgihplaa

namespace Go.Proofs.Ytohcehphgihplaa
open S
set_option linter.unusedVariables false
set_option linter.unusedSimpArgs false
set_option maxRecDepth 100000
def toP (t : P3) : Place := ⟨(t.1 : Int), (t.2.1 : Int), (t.2.2 : Int)⟩
theorem places_l2 (K : Nat) (hK : 1000000 ≤ K) (g : Grammar) (hm : mayP g) (r c : Nat) (hr : r < g.Rules.length) (hc : c < nc g r) (T : List P3) (hT : T.length + (sq g r c).length + 1 ≤ 3072) :
    ∃ k, templeref6_Places.l2 K g r c K (T.map toP, 0) = some ((T ++ tripC r c (sq g r c).length).map toP, k) := by
  have q4 : (sq g r c).length ≤ 64 := ((may_bd hm).2 _ (rd_mem' hr)).2 _ (rd_mem' hc)
  have key := rounds (σ := List Place × Int) (ρ := List Place × Int) (L := templeref6_Places.l2 K g r c)
    (fun z => ∃ m : Nat, z = ((T ++ (List.range m).map fun m => ((r, c, m) : P3)).map toP, (m : Int)) ∧ m ≤ (sq g r c).length + 1)
    (fun z => (sq g r c).length + 1 - z.2.toNat)
    (fun ρ => ∃ k, ρ = ((T ++ tripC r c (sq g r c).length).map toP, k)) ?_ K (T.map toP, 0) ⟨0, by simp, Nat.zero_le _⟩ (by simp; omega)
  · obtain ⟨ρ, e1, k, rfl⟩ := key
    exact ⟨k, e1⟩
  · rintro z mm ⟨m, rfl, k1⟩
    simp only [templeref6_Places.l2]
    rw [if_pos (by omega)]
    by_cases hq : m ≤ (sq g r c).length
    · have e2 : IntKind.wrap .i64 ((m : Int) + 1) = ((m + 1 : Nat) : Int) := by rw [wr (by omega) (by omega)]; omega
      have ll : (T ++ (List.range m).map fun m => ((r, c, m) : P3)).length = T.length + m := by simp
      rw [if_pos (by show (m : Int) ≤ ((sq g r c).length : Int); omega), if_pos (by rw [List.length_map, ll]; simp only [List.length_singleton]; omega)]
      simp only [e2]
      refine .inr ⟨_, ⟨m + 1, ?_, by omega⟩, by simp; omega, rfl⟩
      rw [tripC_succ, ← List.append_assoc, List.map_append (l₂ := [(r, c, m)])]; rfl
    · rw [if_neg (by show ¬ (m : Int) ≤ ((sq g r c).length : Int); omega)]
      have : m = (sq g r c).length + 1 := by omega
      subst this
      exact .inl ⟨_, rfl, _, rfl⟩
theorem places_l1 (K : Nat) (hK : 1000000 ≤ K) (g : Grammar) (hm : mayP g) (r : Nat) (hr : r < g.Rules.length) :
    ∃ k, templeref6_Places.l1 K g r K ((tripAll g r).map toP, 0) = some ((tripAll g (r + 1)).map toP, k) := by
  have hn8 : nc g r ≤ 8 := ((may_bd hm).2 _ (rd_mem' hr)).1
  have hpn := trip_len hm
  have key := rounds (σ := List Place × Int) (ρ := List Place × Int) (L := templeref6_Places.l1 K g r)
    (fun z => ∃ c : Nat, z = ((tripAll g r ++ tripTo g r c).map toP, (c : Int)) ∧ c ≤ nc g r)
    (fun z => nc g r - z.2.toNat)
    (fun ρ => ∃ k, ρ = ((tripAll g (r + 1)).map toP, k)) ?_ K ((tripAll g r).map toP, 0) ⟨0, by simp [tripTo], Nat.zero_le _⟩ (by simp; omega)
  · obtain ⟨ρ, e1, k, rfl⟩ := key
    exact ⟨k, e1⟩
  · rintro z mm ⟨c, rfl, k1⟩
    simp only [templeref6_Places.l1]
    rw [if_pos (by omega)]
    by_cases hq : c < nc g r
    · have e2 : IntKind.wrap .i64 ((c : Int) + 1) = ((c + 1 : Nat) : Int) := by rw [wr (by omega) (by omega)]; omega
      obtain ⟨t, et⟩ := trip_split g hr hq
      have hlen : (trip g).length = (tripAll g r ++ tripTo g r c).length + ((sq g r c).length + 1) + t.length := by rw [et, List.length_append, List.length_append, tripC_len]
      obtain ⟨k, ek⟩ := places_l2 K hK g hm r c hr hq (tripAll g r ++ tripTo g r c) (by omega)
      rw [if_pos (by show (c : Int) < ((nc g r : Nat) : Int); omega), ek, Option.bind_some]
      simp only [e2]
      exact .inr ⟨_, ⟨c + 1, by rw [tripTo_succ, ← List.append_assoc], hq⟩, by simp; omega, rfl⟩
    · rw [if_neg (by show ¬ (c : Int) < ((nc g r : Nat) : Int); omega)]
      have : c = nc g r := by omega
      subst this
      exact .inl ⟨_, rfl, _, by rw [tripAll_succ]⟩
theorem Places_spec (K : Nat) (hK : 1000000 ≤ K) (g : Grammar) (hm : mayP g) : templeref6_Places K g = some ((trip g).map toP, 0) := by
  have hrl : g.Rules.length ≤ 256 := hm.2.2.2.2.1
  obtain ⟨b, h1, h2⟩ := rMay_spec K (by omega) g
  have hb : b = true := h2.2 hm
  subst hb
  have key := rounds (σ := List Place × Int) (ρ := List Place × Int) (L := templeref6_Places.l0 K g)
    (fun z => ∃ r : Nat, z = ((tripAll g r).map toP, (r : Int)) ∧ r ≤ g.Rules.length)
    (fun z => g.Rules.length - z.2.toNat)
    (fun ρ => ∃ k, ρ = ((trip g).map toP, k)) ?_ K (([] : List Place), 0) ⟨0, by simp [tripAll], Nat.zero_le _⟩ (by simp; omega)
  · obtain ⟨ρ, e1, k, rfl⟩ := key
    unfold templeref6_Places
    rw [h1, Option.bind_some, if_neg (by simp), e1]
    rfl
  · rintro z mm ⟨r, rfl, k1⟩
    simp only [templeref6_Places.l0]
    by_cases hr : r < g.Rules.length
    · have e2 : IntKind.wrap .i64 ((r : Int) + 1) = ((r + 1 : Nat) : Int) := by rw [wr (by omega) (by omega)]; omega
      obtain ⟨k, ek⟩ := places_l1 K hK g hm r hr
      rw [if_pos (by omega), ek, Option.bind_some]
      simp only [e2]
      exact .inr ⟨_, ⟨r + 1, rfl, hr⟩, by simp; omega, rfl⟩
    · rw [if_neg (by omega)]
      have : r = g.Rules.length := by omega
      subst this
      exact .inl ⟨_, rfl, _, rfl⟩
theorem tSteps_spec (K : Nat) {g : Grammar} {xs w : List Int} {e : Table_Engine} (h : EngT g xs w e) : ∃ n : Nat, table_Engine_Steps K e = some (n : Int) ∧ e.steps = (n : Int) ∧ n ≤ 16 * (trip g).length * ((w.length + 1) * (w.length + 1) * (w.length + 1)) := by
  obtain ⟨s, C, n, rfl, rfl, rfl, rfl, hx, hg, hn⟩ := h; exact ⟨n, rfl, rfl, hn⟩
theorem steps_fed (K : Nat) {g : Grammar} {w : List Int} {e : Table_Engine} (h : Fed g w e) : ∃ n : Nat, table_Engine_Steps K e = some (n : Int) ∧ e.steps = (n : Int) ∧ n ≤ 16 * (trip g).length * ((w.length + 1) * (w.length + 1) * (w.length + 1)) := by
  obtain ⟨xs, he, _⟩ := h; exact tSteps_spec K he
theorem feed_up (K : Nat) (hK : 1000000 ≤ K) {g : Grammar} {w : List Int} {e : Table_Engine} (h : Fed g w e) {c : Int} (h0 : 0 ≤ c) (h1 : c ≤ 255) (hl : w.length < 32) : ∃ e', table_Engine_Feed K e c = some (0, e') ∧ Fed g (w ++ [c]) e' ∧ e.steps ≤ e'.steps := by
  obtain ⟨xs, he, hf⟩ := h
  rcases tFeed_spec K hK he c with ⟨h2, _⟩ | ⟨_, h2, _⟩ | ⟨_, _, e', h2, h3⟩
  · omega
  · omega
  · exact ⟨e', h2, ⟨xs, h3.1, hf⟩, h3.2⟩
theorem Fed.may {g : Grammar} {w : List Int} {e : Table_Engine} (h : Fed g w e) : mayP g := by obtain ⟨_, _, hf⟩ := h; exact hf.may
theorem new_any (K : Nat) (hK : 1000000 ≤ K) (g : Grammar) : table_New K g = some (none, 1500) ∨ ∃ e, table_New K g = some (some e, 0) ∧ Fed g [] e := by
  rcases tNew_spec K hK g with ⟨s, _, _, h3⟩ | ⟨xs, e, h1, h2, h3⟩
  · exact .inl h3
  · exact .inr ⟨e, h2, xs, h3, h1.lvf⟩
theorem cube_wrap {P i : Nat} (hP : P ≤ 3072) (hi : i ≤ 32) : IntKind.wrap .i64 ((IntKind.wrap .i64 (64 * (IntKind.wrap .i64 ((P : Int) + 1)))) * (IntKind.wrap .i64 ((IntKind.wrap .i64 ((IntKind.wrap .i64 ((i : Int) + 1)) * (IntKind.wrap .i64 ((i : Int) + 1)))) * (IntKind.wrap .i64 ((i : Int) + 1))))) = ((64 * (P + 1) * ((i + 1) * (i + 1) * (i + 1)) : Nat) : Int) := by
  have h1 : (i + 1) * (i + 1) ≤ 33 * 33 := Nat.mul_le_mul (by omega) (by omega)
  have h2 : (i + 1) * (i + 1) * (i + 1) ≤ 33 * 33 * 33 := Nat.mul_le_mul h1 (by omega)
  have h3 : 64 * (P + 1) * ((i + 1) * (i + 1) * (i + 1)) ≤ 64 * 3073 * (33 * 33 * 33) := Nat.mul_le_mul (by omega) h2
  have e1 : IntKind.wrap .i64 ((P : Int) + 1) = ((P + 1 : Nat) : Int) := by rw [wr (by omega) (by omega)]; omega
  have e2 : IntKind.wrap .i64 ((i : Int) + 1) = ((i + 1 : Nat) : Int) := by rw [wr (by omega) (by omega)]; omega
  have e3 : IntKind.wrap .i64 (64 * ((P + 1 : Nat) : Int)) = ((64 * (P + 1) : Nat) : Int) := by rw [wr (by omega) (by omega)]; omega
  have e4 : IntKind.wrap .i64 (((i + 1 : Nat) : Int) * ((i + 1 : Nat) : Int)) = (((i + 1) * (i + 1) : Nat) : Int) := by rw [← Int.natCast_mul, wr (by omega) (by omega)]
  have e5 : IntKind.wrap .i64 ((((i + 1) * (i + 1) : Nat) : Int) * ((i + 1 : Nat) : Int)) = (((i + 1) * (i + 1) * (i + 1) : Nat) : Int) := by rw [← Int.natCast_mul, wr (by omega) (by omega)]
  rw [e1, e2, e3, e4, e5, ← Int.natCast_mul, wr (by omega) (by omega)]
theorem steps_l0 (K : Nat) (hK : 1000000 ≤ K) (g : Grammar) (w : ByteArray) (q : Int) : ∀ (k i m : Nat) (x : Table_Engine) (l : Int), i + k = 33 → k < m → Fed g (bs w (min i w.size)) x → l ≤ x.steps →
    ∃ r, templelaw15_TableSteps.l0 K w ((trip g).map toP, q) m (x, l, (i : Int)) = some (.inl r)
  | 0, i, m, x, l, hi, hm, h, hl => by
    obtain ⟨m, rfl⟩ : ∃ q, m = q + 1 := ⟨m - 1, by omega⟩
    have : i = 33 := by omega
    subst this
    simp only [templelaw15_TableSteps.l0]
    split
    · exact ⟨_, rfl⟩
    · exact ⟨_, rfl⟩
  | k + 1, i, m, x, l, hi, hm, h, hl => by
    obtain ⟨m, rfl⟩ : ∃ q, m = q + 1 := ⟨m - 1, by omega⟩
    simp only [templelaw15_TableSteps.l0]
    obtain ⟨n, n1, n2, n3⟩ := steps_fed K h
    have hpn := trip_len h.may
    by_cases c : (i : Int) ≤ (w.size : Int)
    · have emin : min i w.size = i := by omega
      rw [emin] at h n3
      rw [bs_len] at n3
      have hbd : ¬ (64 * ((trip g).length + 1) * ((i + 1) * (i + 1) * (i + 1)) : Nat) < n := by
        have : 16 * (trip g).length * ((i + 1) * (i + 1) * (i + 1)) ≤ 64 * ((trip g).length + 1) * ((i + 1) * (i + 1) * (i + 1)) := Nat.mul_le_mul_right _ (by omega)
        omega
      rw [if_pos c, if_pos (by omega), n1, Option.bind_some, if_neg (by omega), Option.bind_some, List.length_map, cube_wrap hpn (by omega), if_neg (by omega), Option.bind_some, wr (a := (i : Int) + 1) (by omega) (by omega)]
      by_cases c2 : (i : Int) < (w.size : Int)
      · rw [if_pos c2]
        by_cases c3 : (i : Int) < 32
        · have hb := bt_lo w (i : Int)
          obtain ⟨x', f1, f2, f3⟩ := feed_up K hK h (c := bt w (i : Int)) (by omega) (by omega) (by rw [bs_len]; omega)
          rw [← bs_succ] at f2
          rw [if_pos c3, if_pos (by omega), wr (a := bt w (i : Int)) (by omega) (by omega), f1, Option.bind_some, num_eq, Option.bind_some, if_neg (by simp)]
          exact steps_l0 K hK g w q k (i + 1) m x' n (by omega) (by omega) (by rw [show min (i + 1) w.size = i + 1 by omega]; exact f2) (by omega)
        · rw [if_neg c3]
          have : i = 32 := by omega
          subst this
          obtain ⟨m, rfl⟩ : ∃ q, m = q + 1 := ⟨m - 1, by omega⟩
          simp only [templelaw15_TableSteps.l0]
          split
          · exact ⟨_, rfl⟩
          · exact ⟨_, rfl⟩
      · rw [if_neg c2]
        obtain ⟨m, rfl⟩ : ∃ q, m = q + 1 := ⟨m - 1, by omega⟩
        simp only [templelaw15_TableSteps.l0]
        rw [if_neg (by omega)]
        exact ⟨_, rfl⟩
    · rw [if_neg c]; exact ⟨_, rfl⟩
theorem Steps_true (K : Nat) (hK : 1000000 ≤ K) (g : Grammar) (w : ByteArray) : templelaw15_TableSteps K g w = some true := by
  unfold templelaw15_TableSteps
  rw [awake_true K hK, Option.bind_some, if_neg (by simp)]
  rcases new_any K hK g with h | ⟨e, h, f⟩
  · rw [h]; rfl
  · rw [h, Option.bind_some]
    simp only [num_eq, Option.bind_some]
    rw [if_neg (by simp), Places_spec K hK g f.may, Option.bind_some]
    obtain ⟨n, n1, n2, n3⟩ := steps_fed K f
    obtain ⟨r, hr⟩ := steps_l0 K hK g w 0 33 0 K e 0 rfl (by omega) (by rw [Nat.zero_min]; exact f) (by omega)
    erw [hr]
    rfl
theorem TableSteps_holds (g : Grammar) (w : ByteArray) : ∃ K, templelaw15_TableSteps K g w = some true := ⟨1000000, Steps_true 1000000 (Nat.le_refl _) g w⟩
theorem again_l3 (K : Nat) (hK : 1000000 ≤ K) (g : Grammar) (s : ByteArray) (bad : Int) : ∀ (k i m : Nat) (x : Table_Engine), i + k = 10 → k < m → Fed g (bs s i) x →
    ∃ r, templelaw15_TableAgain.l3 K s bad m (x, x, (i : Int)) = some (.inl r)
  | 0, i, m, x, hi, hm, h => by
    obtain ⟨m, rfl⟩ : ∃ q, m = q + 1 := ⟨m - 1, by omega⟩
    have : i = 10 := by omega
    subst this
    simp only [templelaw15_TableAgain.l3]
    split
    · exact ⟨_, rfl⟩
    · exact ⟨_, rfl⟩
  | k + 1, i, m, x, hi, hm, h => by
    obtain ⟨m, rfl⟩ : ∃ q, m = q + 1 := ⟨m - 1, by omega⟩
    simp only [templelaw15_TableAgain.l3]
    by_cases c : (i : Int) < (s.size : Int)
    · have hb := bt_lo s (i : Int)
      obtain ⟨x', f1, f2⟩ := feed_ok K hK h (c := bt s (i : Int)) (by omega) (by omega) (by rw [bs_len]; omega)
      rw [← bs_succ] at f2
      obtain ⟨n, n1, _, _⟩ := steps_fed K f2
      have hbad : 255 < IntKind.wrap .i64 (256 + iand .i64 bad 1023) := by
        have e : iand .i64 bad 1023 = bad % 1024 := iand_mask bad 10 (by decide)
        rw [e, wr (by omega) (by omega)]; omega
      have f3 := feed_bad K hK f2 (.inr hbad)
      obtain ⟨b, i0⟩ : ∃ b, table_Engine_In K x' = some b := by
        obtain ⟨xs, he, _⟩ := f2
        obtain ⟨b, h1, _⟩ := tIn_spec K he
        exact ⟨b, h1⟩
      rw [if_pos c, if_pos (by omega), if_pos (by omega), wr (a := bt s (i : Int)) (by omega) (by omega), f1]
      simp only [Option.bind_some, f1, n1, f3, num_eq, i0, len_fed K f2, bs_len]
      rw [if_neg (by simp), if_neg (by simp), if_neg (by simp), if_neg (by simp), wr (a := (i : Int) + 1) (by omega) (by omega), if_neg (by simp)]
      exact again_l3 K hK g s bad k (i + 1) m x' (by omega) (by omega) f2
    · rw [if_neg c]; exact ⟨_, rfl⟩
theorem Again_true (K : Nat) (hK : 1000000 ≤ K) (g : Grammar) (s : ByteArray) (bad : Int) : templelaw15_TableAgain K g s bad = some true := by
  unfold templelaw15_TableAgain
  rw [awake_true K hK, Option.bind_some, if_neg (by simp)]
  rcases new_any K hK g with h | ⟨e, h, f⟩
  · rw [h, Option.bind_some]
    simp only [h, Option.bind_some, num_eq]
    rfl
  · rw [h, Option.bind_some]
    simp only [h, Option.bind_some, num_eq]
    rw [if_neg (by simp), if_neg (by simp)]
    obtain ⟨r, hr⟩ := again_l3 K hK g s bad 10 0 K e rfl (by omega) f
    erw [hr]
    rfl
theorem TableAgain_holds (g : Grammar) (s : ByteArray) (bad : Int) : ∃ K, templelaw15_TableAgain K g s bad = some true := ⟨1000000, Again_true 1000000 (Nat.le_refl _) g s bad⟩
end Go.Proofs.Ytohcehphgihplaa

