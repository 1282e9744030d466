/-
  Copies of grammars, comparisons, the reference's edges, in plain Lean; law Depends of chapter 6. Own work; no claim stands here.
-/
import Derived.Test.YtnkpelhaablheaaPLaw6
import Derived.Test.YtnkpelhaablheaaPMayC
namespace Go.Proofs.Ytnkpelhaablheaa
open S Go.Sort
set_option linter.unusedVariables false
set_option linter.unusedSimpArgs false
set_option maxRecDepth 100000

/-! ## Sizes -/
theorem reach_le : reachBytes = 140737488351232 := by decide
/-- All rows of a grammar are within the reach. -/
def SzG (g : Grammar) : Prop := g.Names.length * 16 ≤ 140737488351232 ∧ g.Rules.length * 32 ≤ 140737488351232 ∧ ∀ r ∈ g.Rules, r.Conj.length * 32 ≤ 140737488351232 ∧ ∀ c ∈ r.Conj, c.Seq.length * 24 ≤ 140737488351232
theorem SzG_wf {g : Grammar} (w : wfGrammar g) : SzG g := by
  obtain ⟨_, ⟨w1, _⟩, w2, w3⟩ := w
  rw [reach_le] at w1 w2
  refine ⟨w1, w2, fun r hr => ?_⟩
  obtain ⟨_, w4, w5⟩ := w3 r hr
  rw [reach_le] at w4
  refine ⟨w4, fun c hc => ?_⟩
  have w6 := (w5 c hc).2.1
  rw [reach_le] at w6
  exact w6
def KW : Nat := 140737488355328

/-! ## Copies -/
theorem take_snoc {T : Type} [Inhabited T] {xs : List T} {i : Nat} (hi : i < xs.length) : xs.take i ++ [rd xs (i : Int)] = xs.take (i + 1) := by
  have e : rd xs (i : Int) = xs[i] := by rw [rd_nat, List.getD_eq_getElem?_getD, List.getElem?_eq_getElem hi]; rfl
  rw [e, List.take_append_getElem]
theorem copy_l1 (K : Nat) (hK : KW ≤ K) (g : Grammar) (hg : SzG g) (i : Nat) (hi : i < g.Rules.length) : ∀ (k j m : Nat), j + k = (rd g.Rules (i : Int)).Conj.length → k < m → templelaw0_CopyGrammar.l1 K g i m ((rd g.Rules (i : Int)).Conj.take j, (j : Int)) = some ((rd g.Rules (i : Int)).Conj, ((rd g.Rules (i : Int)).Conj.length : Int))
  | 0, j, m, hj, hm => by
    obtain ⟨m, rfl⟩ : ∃ q, m = q + 1 := ⟨m - 1, by omega⟩
    simp only [templelaw0_CopyGrammar.l1]
    rw [if_neg (by omega), List.take_of_length_le (by omega)]
    have : j = (rd g.Rules (i : Int)).Conj.length := by omega
    rw [this]
  | k + 1, j, m, hj, hm => by
    obtain ⟨m, rfl⟩ : ∃ q, m = q + 1 := ⟨m - 1, by omega⟩
    have ih := copy_l1 K hK g hg i hi k (j + 1) m (by omega) (by omega)
    have hr := hg.2.2 _ (rd_mem (xs := g.Rules) (i := (i : Int)) (by omega) (by omega))
    have hc := hr.2 _ (rd_mem (xs := (rd g.Rules (i : Int)).Conj) (i := (j : Int)) (by omega) (by omega))
    simp only [templelaw0_CopyGrammar.l1]
    rw [if_pos (by omega), if_pos (by omega), if_pos (by simp only [List.length_nil]; omega), if_pos (by rw [List.length_take]; omega), wr (a := (j : Int) + 1) (by omega) (by omega), List.nil_append]
    have e : (⟨(rd (rd g.Rules (i : Int)).Conj (j : Int)).Neg, (rd (rd g.Rules (i : Int)).Conj (j : Int)).Seq⟩ : Conjunct) = rd (rd g.Rules (i : Int)).Conj (j : Int) := rfl
    rw [e, take_snoc (by omega)]
    simpa using ih
theorem copy_l0 (K : Nat) (hK : KW ≤ K) (g : Grammar) (hg : SzG g) : ∀ (k i m : Nat), i + k = g.Rules.length → k < m → templelaw0_CopyGrammar.l0 K g m (g.Rules.take i, (i : Int)) = some (g.Rules, (g.Rules.length : Int))
  | 0, i, m, hi, hm => by
    obtain ⟨m, rfl⟩ : ∃ q, m = q + 1 := ⟨m - 1, by omega⟩
    simp only [templelaw0_CopyGrammar.l0]
    rw [if_neg (by omega), List.take_of_length_le (by omega)]
    have : i = g.Rules.length := by omega
    rw [this]
  | k + 1, i, m, hi, hm => by
    obtain ⟨m, rfl⟩ : ∃ q, m = q + 1 := ⟨m - 1, by omega⟩
    have ih := copy_l0 K hK g hg k (i + 1) m (by omega) (by omega)
    have hr := hg.2.2 _ (rd_mem (xs := g.Rules) (i := (i : Int)) (by omega) (by omega))
    have h2 := hg.2.1
    have h1 := copy_l1 K hK g hg i (by omega) (rd g.Rules (i : Int)).Conj.length 0 K (by omega) (by unfold KW at hK; omega)
    rw [show ((0 : Nat) : Int) = 0 from rfl, List.take_zero] at h1
    simp only [templelaw0_CopyGrammar.l0]
    rw [if_pos (by omega), if_pos (by omega), h1, Option.bind_some]
    simp only
    rw [if_pos (by rw [List.length_take]; omega), wr (a := (i : Int) + 1) (by omega) (by omega)]
    have e : (⟨(rd g.Rules (i : Int)).Head, (rd g.Rules (i : Int)).Conj⟩ : Rule) = rd g.Rules (i : Int) := rfl
    rw [e, take_snoc (by omega)]
    simpa using ih
theorem Copy_spec (K : Nat) (hK : KW ≤ K) (g : Grammar) (hg : SzG g) : templelaw0_CopyGrammar K g = some g := by
  have h1 := copy_l0 K hK g hg g.Rules.length 0 K (by omega) (by have := hg.2.1; unfold KW at hK; omega)
  rw [show ((0 : Nat) : Int) = 0 from rfl, List.take_zero] at h1
  have h2 := hg.1
  unfold templelaw0_CopyGrammar
  rw [if_pos (by simp only [List.length_nil]; omega), Option.bind_some, h1, Option.bind_some]
  rfl

/-! ## Comparisons -/
theorem scan_none {ρ : Type} {n K : Nat} {L : Nat → Int → Option (Int ⊕ ρ)} (hn : n < K) (step : ∀ m i, i < n → L (m + 1) (i : Int) = L m ((i : Int) + 1)) (stop : ∀ m, L (m + 1) (n : Int) = some (.inl (n : Int))) : L K 0 = some (.inl (n : Int)) := by
  have := scan n L (fun _ => none) (fun m i hi => step m i hi) stop n 0 K (by omega) hn
  rw [show ((0 : Nat) : Int) = 0 from rfl, firstOf_no] at this
  exact this
theorem SameTexts_refl (K : Nat) (xs : List ByteArray) (h : xs.length < K) (hl : xs.length ≤ 140737488351232) : templelaw0_SameTexts K xs xs = some true := by
  unfold templelaw0_SameTexts
  rw [if_neg (fun h => h rfl), scan_none (L := templelaw0_SameTexts.l0 K xs xs) h (fun m i hi => by
    simp only [templelaw0_SameTexts.l0]
    rw [if_pos (by omega), if_pos (by omega), if_pos (by omega), if_neg (fun h => h rfl), wr (a := (i : Int) + 1) (by omega) (by omega)]) (fun m => by simp only [templelaw0_SameTexts.l0]; rw [if_neg (by omega)])]
  rfl
theorem SameSymbols_refl (K : Nat) (xs : List Symbol) (h : xs.length < K) (hl : xs.length ≤ 140737488351232) : templelaw0_SameSymbols K xs xs = some true := by
  unfold templelaw0_SameSymbols
  rw [if_neg (fun h => h rfl), scan_none (L := templelaw0_SameSymbols.l0 K xs xs) h (fun m i hi => by
    simp only [templelaw0_SameSymbols.l0]
    rw [if_pos (by omega), if_pos (by omega), if_pos (by omega), if_neg (fun h => h rfl), wr (a := (i : Int) + 1) (by omega) (by omega)]) (fun m => by simp only [templelaw0_SameSymbols.l0]; rw [if_neg (by omega)])]
  rfl
theorem SameRule_refl (K : Nat) (hK : KW ≤ K) (r : Rule) (h1 : r.Conj.length * 32 ≤ 140737488351232) (h2 : ∀ c ∈ r.Conj, c.Seq.length * 24 ≤ 140737488351232) : templelaw0_SameRule K r r = some true := by
  unfold KW at hK
  unfold templelaw0_SameRule
  rw [if_neg (fun h => h rfl), if_neg (fun h => h rfl), scan_none (n := r.Conj.length) (K := K) (L := templelaw0_SameRule.l0 K r r) (by omega) (fun m i hi => by
    have hc := h2 _ (rd_mem (xs := r.Conj) (i := (i : Int)) (by omega) (by omega))
    simp only [templelaw0_SameRule.l0]
    rw [if_pos (by omega), if_pos (by omega), if_pos (by omega), if_neg (fun h => h rfl), SameSymbols_refl K _ (by omega) (by omega), Option.bind_some, if_neg (by decide), wr (a := (i : Int) + 1) (by omega) (by omega)]) (fun m => by simp only [templelaw0_SameRule.l0]; rw [if_neg (by omega)])]
  rfl
theorem SameGrammar_refl (K : Nat) (hK : KW ≤ K) (g : Grammar) (hg : SzG g) : templelaw0_SameGrammar K g g = some true := by
  have hn := hg.1
  have hr := hg.2.1
  have hk : 140737488355328 ≤ K := hK
  unfold templelaw0_SameGrammar
  rw [if_neg (fun h => h rfl), SameTexts_refl K _ (by omega) (by omega), Option.bind_some, if_neg (by decide), if_neg (fun h => h rfl), scan_none (n := g.Rules.length) (K := K) (L := templelaw0_SameGrammar.l0 K g g) (by omega) (fun m i hi => by
    have hc := hg.2.2 _ (rd_mem (xs := g.Rules) (i := (i : Int)) (by omega) (by omega))
    simp only [templelaw0_SameGrammar.l0]
    rw [if_pos (by omega), if_pos (by omega), if_pos (by omega), SameRule_refl K hK _ hc.1 hc.2, Option.bind_some, if_neg (by decide), wr (a := (i : Int) + 1) (by omega) (by omega)]) (fun m => by simp only [templelaw0_SameGrammar.l0]; rw [if_neg (by omega)])]
  rfl
theorem spoil_l0 (K : Nat) : ∀ (k i m : Nat) (xs : List Edge), xs.length ≤ 1000000 → i + k = xs.length → k < m → ∃ q, templelaw0_SpoilEdges.l0 K m (xs, (i : Int)) = some q
  | 0, i, m, xs, hl, hi, hm => by
    obtain ⟨m, rfl⟩ : ∃ q, m = q + 1 := ⟨m - 1, by omega⟩
    simp only [templelaw0_SpoilEdges.l0]
    rw [if_neg (by omega)]; exact ⟨_, rfl⟩
  | k + 1, i, m, xs, hl, hi, hm => by
    obtain ⟨m, rfl⟩ : ∃ q, m = q + 1 := ⟨m - 1, by omega⟩
    simp only [templelaw0_SpoilEdges.l0]
    rw [if_pos (by omega), if_pos (by omega), wr (a := (i : Int) + 1) (by omega) (by omega)]
    have := spoil_l0 K k (i + 1) m (xs.set (i : Int).toNat (⟨ixor .i64 ((rd xs (i : Int)).From) 90, (rd xs (i : Int)).To, (rd xs (i : Int)).Neg⟩ : Edge)) (by rw [List.length_set]; exact hl) (by rw [List.length_set]; omega) (by omega)
    simpa using this
theorem Spoil_some (K : Nat) (xs : List Edge) (hl : xs.length ≤ 1000000) (hK : xs.length < K) : ∃ q, templelaw0_SpoilEdges K xs = some q := by
  obtain ⟨⟨a, b⟩, hq⟩ := spoil_l0 K xs.length 0 K xs hl (by omega) hK
  rw [show ((0 : Nat) : Int) = 0 from rfl] at hq
  unfold templelaw0_SpoilEdges
  rw [hq]; exact ⟨_, rfl⟩

/-! ## The reference's edges -/
def needC (b : Int) (neg : Bool) (c : Conjunct) : Bool := decide (c.Neg = neg) && c.Seq.any fun s => decide (s.Name = b)
def needR (a b : Int) (neg : Bool) (r : Rule) : Bool := decide (r.Head = a) && r.Conj.any (needC b neg)
def need (g : Grammar) (a b : Int) (neg : Bool) : Bool := g.Rules.any (needR a b neg)
theorem needs_l2 (K : Nat) (hK : 1000 ≤ K) (g : Grammar) (b : Int) (neg : Bool) (i j : Int) (h : (rd (rd g.Rules i).Conj j).Seq.length ≤ 64) :
    (needC b neg (rd (rd g.Rules i).Conj j) = true ∧ templeref6_needs.l2 K g b neg i j K 0 = some (.inr (.inr (.inr true)))) ∨ (needC b neg (rd (rd g.Rules i).Conj j) = false ∧ ∃ q, templeref6_needs.l2 K g b neg i j K 0 = some (.inl q)) := by
  unfold needC
  by_cases hn : (rd (rd g.Rules i).Conj j).Neg = neg
  · have := scan (rd (rd g.Rules i).Conj j).Seq.length (templeref6_needs.l2 K g b neg i j) (fun k => if (fun s : Symbol => decide (s.Name = b)) (rd (rd (rd g.Rules i).Conj j).Seq (k : Int)) = true then some (.inr (.inr true)) else none) (fun m k hk => by
      simp only [templeref6_needs.l2]
      rw [if_pos (by omega), if_pos hn, if_pos (by omega), wr (a := (k : Int) + 1) (by omega) (by omega)]
      simp only [decide_eq_true_eq]
      split <;> rfl) (fun m => by simp only [templeref6_needs.l2]; rw [if_neg (by omega)]) (rd (rd g.Rules i).Conj j).Seq.length 0 K (by omega) (by omega)
    rw [show ((0 : Nat) : Int) = 0 from rfl] at this
    have h2 := first_any (rd (rd g.Rules i).Conj j).Seq (fun s => decide (s.Name = b)) (.inr (.inr true) : Int ⊕ (Int ⊕ Bool)) ((rd (rd g.Rules i).Conj j).Seq.length : Int)
    rw [this, decide_eq_true hn, Bool.true_and]
    generalize firstOf _ _ _ = o at h2
    cases hb : (rd (rd g.Rules i).Conj j).Seq.any fun s => decide (s.Name = b) with
    | true =>
      rw [hb, if_pos rfl] at h2
      cases o with
      | none => cases h2
      | some q => cases h2; exact .inl ⟨rfl, rfl⟩
    | false =>
      rw [hb, if_neg (by decide)] at h2
      cases o with
      | none => exact .inr ⟨rfl, _, rfl⟩
      | some q => cases h2
  · obtain ⟨K', rfl⟩ : ∃ q, K = q + 1 := ⟨K - 1, by omega⟩
    refine .inr ⟨by rw [decide_eq_false hn]; rfl, ?_⟩
    simp only [templeref6_needs.l2]
    by_cases h0 : (0 : Int) < ((rd (rd g.Rules i).Conj j).Seq.length : Int)
    · rw [if_pos h0, if_neg hn]; exact ⟨_, rfl⟩
    · rw [if_neg h0]; exact ⟨_, rfl⟩
theorem needs_l1 (K : Nat) (hK : 1000 ≤ K) (g : Grammar) (b : Int) (neg : Bool) (i : Int) (h : RuleBd (rd g.Rules i)) :
    ((rd g.Rules i).Conj.any (needC b neg) = true ∧ templeref6_needs.l1 K g b neg i K 0 = some (.inr (.inr true))) ∨ ((rd g.Rules i).Conj.any (needC b neg) = false ∧ ∃ q, templeref6_needs.l1 K g b neg i K 0 = some (.inl q)) := by
  have h8 := h.1
  have := scan (rd g.Rules i).Conj.length (templeref6_needs.l1 K g b neg i) (fun k => if needC b neg (rd (rd g.Rules i).Conj (k : Int)) = true then some (.inr true) else none) (fun m k hk => by
    simp only [templeref6_needs.l1]
    rw [if_pos (by omega), if_pos (by omega), wr (a := (k : Int) + 1) (by omega) (by omega)]
    rcases needs_l2 K hK g b neg i k (h.2 _ (rd_mem (Int.natCast_nonneg k) (by omega))) with ⟨h1, h2⟩ | ⟨h1, q, h2⟩
    · rw [h2, h1]; rfl
    · rw [h2, h1]; rfl) (fun m => by simp only [templeref6_needs.l1]; rw [if_neg (by omega)]) (rd g.Rules i).Conj.length 0 K (by omega) (by omega)
  rw [show ((0 : Nat) : Int) = 0 from rfl] at this
  have h2 := first_any (rd g.Rules i).Conj (needC b neg) (.inr true : Int ⊕ Bool) ((rd g.Rules i).Conj.length : Int)
  rw [this]
  generalize firstOf _ _ _ = o at h2
  cases hb : (rd g.Rules i).Conj.any (needC b neg) with
  | true =>
    rw [hb, if_pos rfl] at h2
    cases o with
    | none => cases h2
    | some q => cases h2; exact .inl ⟨rfl, rfl⟩
  | false =>
    rw [hb, if_neg (by decide)] at h2
    cases o with
    | none => exact .inr ⟨rfl, _, rfl⟩
    | some q => cases h2
theorem needs_spec (K : Nat) (hK : 1000 ≤ K) (g : Grammar) (hg : Bd g) (a b : Int) (neg : Bool) : templeref6_needs K g a b neg = some (need g a b neg) := by
  have h256 := hg.1
  have := scan g.Rules.length (templeref6_needs.l0 K g a b neg) (fun i => if needR a b neg (rd g.Rules (i : Int)) = true then some true else none) (fun m i hi => by
    simp only [templeref6_needs.l0]
    rw [if_pos (by omega), if_pos (by omega), wr (a := (i : Int) + 1) (by omega) (by omega)]
    by_cases hh : (rd g.Rules (i : Int)).Head = a
    · have e : needR a b neg (rd g.Rules (i : Int)) = (rd g.Rules (i : Int)).Conj.any (needC b neg) := by unfold needR; rw [decide_eq_true hh, Bool.true_and]
      rw [if_neg (fun h => h hh), e]
      rcases needs_l1 K hK g b neg i (hg.2 _ (rd_mem (Int.natCast_nonneg i) (by omega))) with ⟨h1, h2⟩ | ⟨h1, q, h2⟩
      · rw [h2, h1]; rfl
      · rw [h2, h1]; rfl
    · have e : needR a b neg (rd g.Rules (i : Int)) = false := by unfold needR; rw [decide_eq_false hh, Bool.false_and]
      rw [if_pos hh, e]; rfl) (fun m => by simp only [templeref6_needs.l0]; rw [if_neg (by omega)]) g.Rules.length 0 K (by omega) (by omega)
  rw [show ((0 : Nat) : Int) = 0 from rfl] at this
  have h2 := first_any g.Rules (needR a b neg) true (g.Rules.length : Int)
  unfold templeref6_needs need
  rw [this]
  generalize firstOf _ _ _ = o at h2
  cases hb : g.Rules.any (needR a b neg) with
  | true =>
    rw [hb, if_pos rfl] at h2
    cases o with
    | none => cases h2
    | some q => cases h2; rfl
  | false =>
    rw [hb, if_neg (by decide)] at h2
    cases o with
    | none => rfl
    | some q => cases h2
def refB (g : Grammar) (a b : Nat) : List Edge := (if need g a b false = true then [(⟨a, b, false⟩ : Edge)] else []) ++ (if need g a b true = true then [(⟨a, b, true⟩ : Edge)] else [])
def refA (g : Grammar) (n a : Nat) : List Edge := (List.range n).flatMap (refB g a)
def refL (g : Grammar) : List Edge := (List.range g.Names.length).flatMap (refA g g.Names.length)
theorem refB_len (g : Grammar) (a b : Nat) : (refB g a b).length ≤ 2 := by
  unfold refB
  split <;> split <;> simp
/-- A loop that puts rows behind. -/
theorem appLoop {T : Type} {n c B : Nat} {L : Nat → List T × Int → Option (List T × Int)} (f : Nat → List T) (hf : ∀ i, (f i).length ≤ c) (step : ∀ m s i, i < n → s.length + c ≤ B → L (m + 1) (s, (i : Int)) = L m (s ++ f i, (i : Int) + 1))
    (stop : ∀ m s, L (m + 1) (s, (n : Int)) = some (s, (n : Int))) (m : Nat) (hm : n < m) (s : List T) (hs : s.length + n * c ≤ B) : L m (s, 0) = some (s ++ (List.range n).flatMap f, (n : Int)) := by
  have key : ∀ k i s m, i + k = n → k < m → s.length + k * c ≤ B → L m (s, (i : Int)) = some (s ++ (List.range' i k).flatMap f, (n : Int)) := by
    intro k
    induction k with
    | zero =>
      intro i s m hi hm hs
      obtain ⟨m, rfl⟩ : ∃ q, m = q + 1 := ⟨m - 1, by omega⟩
      have : i = n := by omega
      subst this
      rw [stop]; simp
    | succ k ih =>
      intro i s m hi hm hs
      obtain ⟨m, rfl⟩ : ∃ q, m = q + 1 := ⟨m - 1, by omega⟩
      rw [Nat.add_mul] at hs
      have hfi := hf i
      rw [step m s i (by omega) (by omega), List.range'_succ, List.flatMap_cons, ← List.append_assoc]
      have := ih (i + 1) (s ++ f i) m (by omega) (by omega) (by rw [List.length_append]; omega)
      simpa using this
  have := key n 0 s m (by omega) hm hs
  rw [List.range_eq_range']
  simpa using this
theorem refEdges_l2 (K : Nat) (hK : 1000 ≤ K) (g : Grammar) (hg : Bd g) (a b : Nat) (s : List Edge) (hs : s.length + 2 ≤ 100000) : templeref6_Edges.l2 K g a b K (s, 0) = some (s ++ refB g a b, 2) := by
  obtain ⟨K', rfl⟩ : ∃ q, K = q + 3 := ⟨K - 3, by omega⟩
  have e0 := needs_spec (K' + 3) hK g hg a b false
  have e1 := needs_spec (K' + 3) hK g hg a b true
  have d0 : decide ((0 : Int) = 1) = false := rfl
  have d1 : decide ((1 : Int) = 1) = true := rfl
  have w0 : IntKind.wrap .i64 ((0 : Int) + 1) = 1 := rfl
  have w1 : IntKind.wrap .i64 ((1 : Int) + 1) = 2 := rfl
  unfold refB
  simp only [templeref6_Edges.l2]
  rw [if_pos (by decide), d0, e0, Option.bind_some, w0]
  cases need g a b false with
  | true =>
    rw [if_pos rfl, if_pos (by simp only [List.length_cons, List.length_nil]; omega), if_pos (by decide), d1, e1, Option.bind_some, w1]
    cases need g a b true with
    | true => rw [if_pos rfl, if_pos (by simp only [List.length_append, List.length_cons, List.length_nil]; omega), if_neg (by decide)]; simp
    | false => rw [if_neg (by decide), if_neg (by decide)]; simp
  | false =>
    rw [if_neg (by decide), if_pos (by decide), d1, e1, Option.bind_some, w1]
    cases need g a b true with
    | true => rw [if_pos rfl, if_pos (by simp only [List.length_cons, List.length_nil]; omega), if_neg (by decide)]; simp
    | false => rw [if_neg (by decide), if_neg (by decide)]; simp
theorem refA_len (g : Grammar) (n a : Nat) : (refA g n a).length ≤ 2 * n := by
  unfold refA
  have : ∀ (l : List Nat), (l.flatMap (refB g a)).length ≤ 2 * l.length := by
    intro l
    induction l with
    | nil => simp
    | cons x l ih =>
      have := refB_len g a x
      rw [List.flatMap_cons, List.length_append, List.length_cons]; omega
  simpa using this (List.range n)
theorem refEdges_spec (K : Nat) (hK : 1000 ≤ K) (g : Grammar) (hg : Bd g) (hn : g.Names.length ≤ 64) : ∃ q, templeref6_Edges.l0 K g K ([], 0) = some (refL g, q) := by
  refine ⟨_, (appLoop (n := g.Names.length) (c := 128) (B := 50000) (refA g g.Names.length) (fun i => by have := refA_len g g.Names.length i; omega) (fun m s i hi hs => ?_) (fun m s => by simp only [templeref6_Edges.l0]; rw [if_neg (by omega)]) K (by omega) [] (by simp only [List.length_nil]; omega))⟩
  simp only [templeref6_Edges.l0]
  have h1 := appLoop (n := g.Names.length) (c := 2) (B := 90000) (L := templeref6_Edges.l1 K g i) (refB g i) (refB_len g i) (fun m s j hj hs => by
    simp only [templeref6_Edges.l1]
    rw [if_pos (by omega), refEdges_l2 K hK g hg i j s (by omega), Option.bind_some, wr (a := (j : Int) + 1) (by omega) (by omega)]) (fun m s => by simp only [templeref6_Edges.l1]; rw [if_neg (by omega)]) K (by omega) s (by omega)
  rw [if_pos (by omega), h1, Option.bind_some, wr (a := (i : Int) + 1) (by omega) (by omega)]
  rfl

/-! ## They are the same -/
theorem chain_mem {n : Int} : ∀ {rs : List Rule} {h : Int}, chainP n h rs → ∀ r ∈ rs, h ≤ r.Head ∧ r.Head ≤ n - 1 ∧ ruleP n r
  | [], h, hc, r, hr => by cases hr
  | q :: rs, h, hc, r, hr => by
    rw [chainP] at hc
    have hl := chain_le hc.2.2
    rcases List.mem_cons.1 hr with rfl | hr
    · exact ⟨by omega, hl, hc.1⟩
    · have := chain_mem hc.2.2 r hr
      exact ⟨by omega, this.2.1, this.2.2⟩
theorem may_heads {g : Grammar} (h : mayP g) : ∀ r ∈ g.Rules, 0 ≤ r.Head ∧ r.Head < (g.Names.length : Int) ∧ ruleP (g.Names.length : Int) r := by
  obtain ⟨_, _, _, h1, _, h2, h3, _⟩ := h
  cases hr : g.Rules with
  | nil => rw [hr] at h1; simp at h1
  | cons r0 rs =>
    rw [hr] at h2 h3
    have h4 : r0.Head = 0 := h2
    rw [chainP] at h3
    intro r hm
    have hl := chain_le h3.2.2
    rcases List.mem_cons.1 hm with rfl | hm
    · exact ⟨by omega, by omega, h3.1⟩
    · have := chain_mem h3.2.2 r hm
      exact ⟨by omega, by omega, this.2.2⟩
theorem may_bd {g : Grammar} (h : mayP g) : Bd g := ⟨h.2.2.2.2.1, fun r hr => ⟨(may_heads h r hr).2.2.2.1, fun c hc => ((may_heads h r hr).2.2.2.2 c hc).1⟩⟩
theorem occ_bounds {g : Grammar} (h : mayP g) {e : Edge} (ho : Occ g e) : 0 ≤ e.From ∧ e.From < (g.Names.length : Int) ∧ 0 ≤ e.To ∧ e.To < (g.Names.length : Int) := by
  obtain ⟨r, hr, c, hc, s, hs, h0, rfl⟩ := ho
  have h1 := may_heads h r hr
  have h2 := (h1.2.2.2.2 c hc).2 s hs
  refine ⟨h1.1, h1.2.1, h0, ?_⟩
  show s.Name < _
  rcases h2 with h2 | h2 <;> omega
theorem need_occ (g : Grammar) (a b : Int) (neg : Bool) (hb : 0 ≤ b) : need g a b neg = true ↔ Occ g ⟨a, b, neg⟩ := by
  unfold need needR needC Occ OccR OccC OccS
  simp only [List.any_eq_true, Bool.and_eq_true, decide_eq_true_eq, eOf, Edge.mk.injEq]
  constructor
  · rintro ⟨r, hr, h1, c, hc, h2, s, hs, h3⟩
    exact ⟨r, hr, c, hc, s, hs, by omega, h1.symm, h3.symm, h2.symm⟩
  · rintro ⟨r, hr, c, hc, s, hs, h0, h1, h3, h2⟩
    exact ⟨r, hr, h1.symm, c, hc, h2.symm, s, hs, h3.symm⟩
theorem mem_refB {g : Grammar} {a b : Nat} {e : Edge} : e ∈ refB g a b ↔ e.From = a ∧ e.To = b ∧ Occ g e := by
  have h0 := need_occ g a b false (Int.natCast_nonneg b)
  have h1 := need_occ g a b true (Int.natCast_nonneg b)
  unfold refB
  rw [List.mem_append]
  obtain ⟨x, y, neg⟩ := e
  constructor
  · rintro (h | h)
    · split at h
      · rename_i hn
        rw [List.mem_singleton] at h; cases h; exact ⟨rfl, rfl, h0.1 hn⟩
      · cases h
    · split at h
      · rename_i hn
        rw [List.mem_singleton] at h; cases h; exact ⟨rfl, rfl, h1.1 hn⟩
      · cases h
  · rintro ⟨e1, e2, ho⟩
    simp only at e1 e2
    subst e1 e2
    cases neg with
    | false => rw [if_pos (h0.2 ho)]; exact .inl (.head _)
    | true => rw [if_pos (h1.2 ho)]; exact .inr (.head _)
theorem mem_refL {g : Grammar} (h : mayP g) {e : Edge} : e ∈ refL g ↔ Occ g e := by
  unfold refL refA
  simp only [List.mem_flatMap, List.mem_range, mem_refB]
  constructor
  · rintro ⟨a, _, b, _, _, _, ho⟩; exact ho
  · intro ho
    have := occ_bounds h ho
    exact ⟨e.From.toNat, by omega, e.To.toNat, by omega, by omega, by omega, ho⟩
def eLt (a b : Edge) : Prop := a.From < b.From ∨ (a.From = b.From ∧ (a.To < b.To ∨ (a.To = b.To ∧ a.Neg = false ∧ b.Neg = true)))
theorem refL_sorted (g : Grammar) : (refL g).Pairwise eLt := by
  unfold refL
  refine List.pairwise_flatMap.2 ⟨fun a _ => ?_, List.pairwise_lt_range.imp fun {a a'} hlt x hx y hy => ?_⟩
  · unfold refA
    refine List.pairwise_flatMap.2 ⟨fun b _ => ?_, List.pairwise_lt_range.imp fun {b b'} hlt x hx y hy => ?_⟩
    · unfold refB
      split <;> split <;> simp [eLt]
    · have h1 := mem_refB.1 hx
      have h2 := mem_refB.1 hy
      exact .inr ⟨by rw [h1.1, h2.1], .inl (by rw [h1.2.1, h2.2.1]; omega)⟩
  · unfold refA at hx hy
    simp only [List.mem_flatMap] at hx hy
    obtain ⟨b, _, hx⟩ := hx
    obtain ⟨b', _, hy⟩ := hy
    have h1 := mem_refB.1 hx
    have h2 := mem_refB.1 hy
    exact .inl (by rw [h1.1, h2.1]; omega)
theorem edgesOf_pairwise (g : Grammar) : (edgesOf g).Pairwise fun x y => (!(ltOf rowC y x)) = true := by
  refine List.pairwise_mergeSort (fun a b c h1 h2 => ?_) (fun a b => ?_) _
  · have := rowC_swo.ntrans c b a (by simpa using h2) (by simpa using h1)
    simpa using this
  · by_cases h : ltOf rowC b a = true
    · have : ltOf rowC a b = false := by
        cases hab : ltOf rowC a b with
        | false => rfl
        | true => have := rowC_swo.trans _ _ _ h hab; rw [rowC_swo.irrefl] at this; cases this
      simp [this]
    · simp [h]
theorem edgesOf_is (g : Grammar) {es : List Edge} (hs : es.Pairwise eLt) (hm : ∀ e, e ∈ es ↔ Occ g e) : edgesOf g = es := by
  refine perm_unique (r := fun x y => (!(ltOf rowC y x)) = true) (fun x y h1 h2 => rowC_anti _ _ (by simpa using h2) (by simpa using h1)) ?_ (edgesOf_pairwise g) (hs.imp fun {x y} h => ?_)
  · refine (List.perm_ext_iff_of_nodup (edges_nodup g) (hs.imp fun {x y} h e => ?_)).2 fun e => by rw [mem_edges, hm]
    subst e
    have := (rowC_lt x x).2 h
    rw [rowC_swo.irrefl] at this; cases this
  · have h1 := (rowC_lt x y).2 h
    cases h2 : ltOf rowC y x with
    | false => rfl
    | true => have := rowC_swo.trans _ _ _ h1 h2; rw [rowC_swo.irrefl] at this; cases this
theorem edges_ref {g : Grammar} (h : mayP g) : edgesOf g = refL g := edgesOf_is g (refL_sorted g) fun e => mem_refL h
/-- What both say of a grammar's edges. -/
theorem Edges_both (K : Nat) (hK : 200000 ≤ K) (g : Grammar) : ∃ b, (b = true ↔ mayP g) ∧ gram_May K g = some b ∧ templeref1_May K g = some b ∧ deps_Edges K g = some (if b = true then (edgesOf g, 0) else ([], 600)) ∧ templeref6_Edges K g = some (if b = true then (edgesOf g, 0) else ([], 600)) := by
  obtain ⟨b, hb, hbm⟩ := gMay_spec K (by omega) g
  obtain ⟨b', hb', _, he⟩ := Edges_spec K hK g
  rw [hb] at hb'
  cases hb'
  have hr : templeref1_May K g = some b := by rw [May_eq K (by omega)]; exact hb
  refine ⟨b, hbm, hb, hr, he, ?_⟩
  unfold templeref6_Edges
  rw [hr, Option.bind_some]
  cases b with
  | false => rfl
  | true =>
    have hm := hbm.1 rfl
    obtain ⟨q, hq⟩ := refEdges_spec K (by omega) g (may_bd hm) hm.1.2.1
    rw [if_neg (by decide), hq, Option.bind_some, if_pos rfl, edges_ref hm]

/-! ## The law Depends -/
theorem Depends_true (K : Nat) (hK : KW ≤ K) (g : Grammar) (hg : SzG g) : templelaw6_Depends K g = some true := by
  have hK' : 140737488355328 ≤ K := hK
  obtain ⟨b, hb, _, _, h1, h2⟩ := Edges_both K (by omega) g
  have eg : (⟨g.Start, g.Names, g.Rules⟩ : Grammar) = g := rfl
  have hl : (if b = true then (edgesOf g, (0 : Int)) else ([], 600)).1.length ≤ 131072 := by
    cases b with
    | false => simp
    | true => exact edges_len g (may_bd (hb.1 rfl))
  unfold templelaw6_Depends
  rw [Copy_spec K hK g hg, Option.bind_some, eg, h1, Option.bind_some, h2, Option.bind_some]
  generalize (if b = true then (edgesOf g, (0 : Int)) else ([], 600)) = q at hl ⊢
  rw [SameEdges_refl K q.1 (by omega) (by omega), Option.bind_some, if_neg (by decide)]
  simp only [templelaw0_Num, Option.bind_some]
  rw [if_neg (fun h => h rfl), SameGrammar_refl K hK g hg, Option.bind_some, if_neg (by decide)]
  obtain ⟨s, hs⟩ := Spoil_some K q.1 (by omega) (by omega)
  rw [hs]
  simp only [Option.bind_some]
  rw [SameEdges_refl K q.1 (by omega) (by omega), Option.bind_some, if_pos rfl, awake6 K (by omega)]
  rfl
theorem Depends_holds (g : Grammar) (w : wfGrammar g) : ∃ K, templelaw6_Depends K g = some true := ⟨KW, Depends_true KW (Nat.le_refl _) g (SzG_wf w)⟩
end Go.Proofs.Ytnkpelhaablheaa
