/-
  gram.May: it answers; what is bounded where it says yes. Own work; no claim stands here.
-/
import Derived.Test.YtnkpelhaablheaaPT
import Derived.Test.YtnkpelhaablheaaF5
namespace Go.Proofs.Ytnkpelhaablheaa
open S
set_option linter.unusedVariables false
set_option linter.unusedSimpArgs false
set_option maxRecDepth 100000

theorem letter_some (K : Nat) (c : Int) : ∃ b, lex_letter K c = some b := by
  unfold lex_letter
  repeat' split
  all_goals exact ⟨_, rfl⟩
theorem more_some (K : Nat) (c : Int) : ∃ b, lex_more K c = some b := by
  obtain ⟨b, hb⟩ := letter_some K c
  unfold lex_more
  rw [hb, Option.bind_some]
  repeat' split
  all_goals exact ⟨_, rfl⟩
theorem lexName_some (K : Nat) (hK : 1000 ≤ K) (s : ByteArray) : ∃ b, lex_Name K s = some b := by
  unfold lex_Name
  by_cases h1 : s = (⟨#[]⟩ : ByteArray)
  · rw [if_pos h1]; exact ⟨_, rfl⟩
  rw [if_neg h1]
  by_cases h2 : 32 < (s.size : Int)
  · rw [if_pos h2]; exact ⟨_, rfl⟩
  rw [if_neg h2]
  split
  · exact ⟨_, rfl⟩
  have h0 : 0 < (s.size : Int) := by
    rcases Nat.eq_zero_or_pos s.size with h | h
    · exfalso; apply h1
      apply ByteArray.ext
      exact Array.eq_empty_of_size_eq_zero h
    · omega
  rw [if_pos h0]
  obtain ⟨b, hb⟩ := letter_some K (bt s 0)
  rw [hb, Option.bind_some]
  split
  · exact ⟨_, rfl⟩
  have := scan s.size (lex_Name.l0 K s) (fun i => if (!((lex_more K (bt s (i : Int))).getD false)) = true then some false else none) (fun m i hi => by
    obtain ⟨q, hq⟩ := more_some K (bt s (i : Int))
    simp only [lex_Name.l0]
    rw [if_pos (by omega), if_pos (Int.natCast_nonneg i), hq, Option.bind_some, Option.getD_some, wr (a := (i : Int) + 1) (by omega) (by omega)]
    cases q <;> rfl) (fun m => by simp only [lex_Name.l0]; rw [if_neg (by omega)]) s.size 0 K (by omega) (by omega)
  rw [show ((0 : Nat) : Int) = 0 from rfl] at this
  rw [this]
  split <;> exact ⟨_, rfl⟩
theorem names_some (K : Nat) (hK : 1000 ≤ K) (ns : List ByteArray) : ∃ b, gram_names K ns = some b := by
  unfold gram_names
  split
  · exact ⟨_, rfl⟩
  split
  · exact ⟨_, rfl⟩
  have hex : ∀ i : Int, ∃ b, lex_Name K (rd ns i) = some b := fun i => lexName_some K hK _
  have hs := scanS ns.length (gram_names.l0 K ns) (fun es i => if (!((lex_Name K (rd ns (i : Int))).getD false)) = true then .inr false else if (mgetD false es (rd ns (i : Int))) = true then .inr false else .inl (mput es (rd ns (i : Int)) true)) (fun m s i hi => by
    obtain ⟨b, hb⟩ := hex i
    simp only [gram_names.l0]
    rw [if_pos (by omega), if_pos (Int.natCast_nonneg i), hb, Option.bind_some, Option.getD_some, wr (a := (i : Int) + 1) (by omega) (by omega)]
    cases b
    · rfl
    · simp only [Bool.not_true, Bool.false_eq_true, if_false]
      split <;> rfl) (fun m s => by simp only [gram_names.l0]; rw [if_neg (by omega)]) (fun _ _ => True) (fun _ _ _ _ _ _ => trivial) ns.length 0 [] K (by omega) (by omega) trivial
  rw [show ((0 : Nat) : Int) = 0 from rfl] at hs
  rcases hs with ⟨s', h, _⟩ | ⟨r, j, s', h, _⟩ <;> rw [h] <;> exact ⟨_, rfl⟩
theorem symbol_some (K : Nat) (s : Symbol) (n : Int) : ∃ b, gram_symbol K s n = some b := by
  unfold gram_symbol
  repeat' split
  all_goals exact ⟨_, rfl⟩
def RuleBd (r : Rule) : Prop := r.Conj.length ≤ 8 ∧ ∀ c ∈ r.Conj, c.Seq.length ≤ 64
theorem rule_some (K : Nat) (hK : 1000 ≤ K) (r : Rule) (n : Int) : ∃ q, gram_rule K r n = some q ∧ 0 ≤ q.1 ∧ q.1 ≤ 512 ∧ (q.2 = true → RuleBd r) := by
  unfold gram_rule
  split
  · exact ⟨_, rfl, by decide, by decide, fun h => by cases h⟩
  split
  · exact ⟨_, rfl, by decide, by decide, fun h => by cases h⟩
  have hin : ∀ i : Int, (rd r.Conj i).Seq.length ≤ 64 → ∃ q, gram_rule.l1 K r n i K 0 = some q ∧ (q = .inl ((rd r.Conj i).Seq.length : Int) ∨ q = .inr (.inr (0, false))) := fun i hi => by
    have := scan (rd r.Conj i).Seq.length (gram_rule.l1 K r n i) (fun j => if (!((gram_symbol K (⟨(rd ((rd r.Conj i).Seq) (j : Int)).Name, (rd ((rd r.Conj i).Seq) (j : Int)).Lo, (rd ((rd r.Conj i).Seq) (j : Int)).Hi⟩ : Symbol) n).getD false)) = true then some (.inr (0, false)) else none) (fun m j hj => by
      obtain ⟨b, hb⟩ := symbol_some K (⟨(rd ((rd r.Conj i).Seq) (j : Int)).Name, (rd ((rd r.Conj i).Seq) (j : Int)).Lo, (rd ((rd r.Conj i).Seq) (j : Int)).Hi⟩ : Symbol) n
      simp only [gram_rule.l1]
      rw [if_pos (by omega), if_pos (Int.natCast_nonneg j), hb, Option.bind_some, Option.getD_some, wr (a := (j : Int) + 1) (by omega) (by omega)]
      cases b <;> rfl) (fun m => by simp only [gram_rule.l1]; rw [if_neg (by omega)]) (rd r.Conj i).Seq.length 0 K (by omega) (by omega)
    rw [show ((0 : Nat) : Int) = 0 from rfl] at this
    rw [this]
    split
    · rename_i hq
      obtain ⟨j, _, _, h3, _⟩ := firstOf_some hq
      split at h3
      · cases h3; exact ⟨_, rfl, .inr rfl⟩
      · cases h3
    · exact ⟨_, rfl, .inl rfl⟩
  have hs := scanS r.Conj.length (gram_rule.l0 K r n) (fun s i => if 64 < (((rd r.Conj (i : Int)).Seq).length : Int) then .inr (0, false) else match gram_rule.l1 K r n (i : Int) K 0 with | some (.inl _) => .inl (IntKind.wrap .i64 (s + (((rd r.Conj (i : Int)).Seq).length : Int))) | _ => .inr (0, false)) (fun m s i hi => by
    simp only [gram_rule.l0]
    rw [if_pos (by omega), if_pos (Int.natCast_nonneg i), wr (a := (i : Int) + 1) (by omega) (by omega)]
    split
    · rfl
    · rename_i h64
      obtain ⟨q, h1, h2⟩ := hin i (by omega)
      rw [h1]
      rcases h2 with rfl | rfl <;> rfl) (fun m s => by simp only [gram_rule.l0]; rw [if_neg (by omega)])
    (fun i s => 0 ≤ s ∧ s ≤ 64 * i ∧ ∀ j : Nat, j < i → (rd r.Conj (j : Int)).Seq.length ≤ 64) (fun s i hi hI s' h => by
      split at h
      · cases h
      · rename_i h64
        obtain ⟨q, h1, h2⟩ := hin i (by omega)
        rw [h1] at h
        rcases h2 with rfl | rfl
        · simp only [Sum.inl.injEq] at h
          rw [wr (by omega) (by omega)] at h
          subst h
          refine ⟨by omega, by push_cast; omega, fun j hj => ?_⟩
          rcases Nat.lt_succ_iff_lt_or_eq.1 hj with hj | rfl
          · exact hI.2.2 j hj
          · omega
        · cases h) r.Conj.length 0 0 K (by omega) (by omega) ⟨by omega, by omega, fun j hj => by omega⟩
  rw [show ((0 : Nat) : Int) = 0 from rfl] at hs
  rcases hs with ⟨s', h, h1, h2, h3⟩ | ⟨q, j, s', h, _, hj, _, hq⟩
  · rw [h]
    refine ⟨_, rfl, h1, by omega, fun _ => ⟨by omega, fun c hc => ?_⟩⟩
    obtain ⟨j, hj, rfl⟩ := List.getElem_of_mem hc
    have := h3 j hj
    rwa [rd_nat, List.getD_eq_getElem?_getD, List.getElem?_eq_getElem hj] at this
  · rw [h]
    have : q = (0, false) := by
      split at hq
      · cases hq; rfl
      · split at hq
        · cases hq
        · cases hq; rfl
    subst this
    exact ⟨_, rfl, by decide, by decide, fun h => by cases h⟩
def Bd (g : Grammar) : Prop := g.Rules.length ≤ 256 ∧ ∀ r ∈ g.Rules, RuleBd r
theorem May_some (K : Nat) (hK : 1000 ≤ K) (g : Grammar) : ∃ b, gram_May K g = some b ∧ (b = true → Bd g) := by
  unfold gram_May
  obtain ⟨b, hb⟩ := names_some K hK g.Names
  rw [hb, Option.bind_some]
  split
  · exact ⟨_, rfl, fun h => by cases h⟩
  split
  · exact ⟨_, rfl, fun h => by cases h⟩
  split
  · exact ⟨_, rfl, fun h => by cases h⟩
  split
  · exact ⟨_, rfl, fun h => by cases h⟩
  split
  · exact ⟨_, rfl, fun h => by cases h⟩
  have hex : ∀ i : Int, ∃ q, gram_rule K (rd g.Rules i) (g.Names.length : Int) = some q ∧ 0 ≤ q.1 ∧ q.1 ≤ 512 ∧ (q.2 = true → RuleBd (rd g.Rules i)) := fun i => rule_some K hK _ _
  have hs := scanS (τ := Int × Int) g.Rules.length (fun m s => (gram_May.l0 K g m (s.1.1, s.1.2, s.2)).map fun | .inl (a, b, c) => .inl ((a, b), c) | .inr r => .inr r)
    (fun s i => match gram_rule K (rd g.Rules (i : Int)) (g.Names.length : Int) with
      | some q => if (!q.2) = true then .inr false else if (rd g.Rules (i : Int)).Head < s.1 then .inr false else if IntKind.wrap .i64 (s.1 + 1) < (rd g.Rules (i : Int)).Head then .inr false else if 1024 < IntKind.wrap .i64 (s.2 + q.1) then .inr false else .inl ((rd g.Rules (i : Int)).Head, IntKind.wrap .i64 (s.2 + q.1))
      | none => .inr false) (fun m s i hi => by
    obtain ⟨q, h1, h2, h3, h4⟩ := hex i
    simp only [gram_May.l0]
    rw [if_pos (by omega), if_pos (Int.natCast_nonneg i), h1, Option.bind_some, wr (a := (i : Int) + 1) (by omega) (by omega)]
    simp only
    split
    · rfl
    split
    · rfl
    split
    · rfl
    split
    · rfl
    rfl) (fun m s => by simp only [gram_May.l0]; rw [if_neg (by omega)]; rfl)
    (fun i s => ∀ j : Nat, j < i → RuleBd (rd g.Rules (j : Int))) (fun s i hi hI s' h => by
      obtain ⟨q, h1, h2, h3, h4⟩ := hex i
      rw [h1] at h
      simp only at h
      split at h
      · cases h
      · rename_i hq
        intro j hj
        rcases Nat.lt_succ_iff_lt_or_eq.1 hj with hj | rfl
        · exact hI j hj
        · exact h4 (by cases hq2 : q.2 <;> simp_all)) g.Rules.length 0 (-1, 0) K (by omega) (by omega) (fun j hj => by omega)
  simp only [show ((0 : Nat) : Int) = 0 from rfl] at hs
  have hfin : ∀ r, (gram_May.l0 K g K (-1, 0, 0)).map (fun | .inl (a, b, c) => (.inl ((a, b), c) : ((Int × Int) × Int) ⊕ Bool) | .inr r => .inr r) = some r → (∃ a b c, gram_May.l0 K g K (-1, 0, 0) = some (.inl (a, b, c)) ∧ r = .inl ((a, b), c)) ∨ ∃ q, gram_May.l0 K g K (-1, 0, 0) = some (.inr q) ∧ r = .inr q := by
    intro r h
    cases hl : gram_May.l0 K g K (-1, 0, 0) with
    | none => rw [hl] at h; cases h
    | some x =>
      rw [hl] at h
      cases x with
      | inl x => obtain ⟨a, b, c⟩ := x; cases h; exact .inl ⟨a, b, c, rfl, rfl⟩
      | inr q => cases h; exact .inr ⟨q, rfl, rfl⟩
  have hpos : 0 < (g.Rules.length : Int) := by omega
  rcases hs with ⟨s', h, h3⟩ | ⟨q, j, s', h, _, hj, _, hq⟩
  · rcases hfin _ h with ⟨a, b, c, h1, h2⟩ | ⟨q, h1, h2⟩
    · rw [h1]
      simp only [brk, Option.bind_some]
      rw [if_pos hpos]
      have hbd : Bd g := ⟨by omega, fun r hr => by
        obtain ⟨j, hj, rfl⟩ := List.getElem_of_mem hr
        have := h3 j hj
        rwa [rd_nat, List.getD_eq_getElem?_getD, List.getElem?_eq_getElem hj] at this⟩
      split
      · exact ⟨_, rfl, fun _ => hbd⟩
      · exact ⟨_, rfl, fun h => by cases h⟩
    · cases h2
  · rcases hfin _ h with ⟨a, b, c, h1, h2⟩ | ⟨q', h1, h2⟩
    · cases h2
    · cases h2
      rw [h1]
      refine ⟨q, rfl, fun hqt => ?_⟩
      subst hqt
      obtain ⟨q', g1, g2, g3, g4⟩ := hex j
      rw [g1] at hq
      simp only at hq
      repeat' split at hq
      all_goals cases hq
end Go.Proofs.Ytnkpelhaablheaa
