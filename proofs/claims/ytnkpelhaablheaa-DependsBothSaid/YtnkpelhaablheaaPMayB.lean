/-
  gram.May and the reference's May say the same, and what they say. Own work; no claim stands here.
-/
import Derived.Test.YtnkpelhaablheaaPMay
namespace Go.Proofs.Ytnkpelhaablheaa
open S
set_option linter.unusedVariables false
set_option linter.unusedSimpArgs false
set_option maxRecDepth 100000

/-- A loop over a list, with a state, that may leave early: as a recursion over the list. -/
def runL {τ ρ α : Type} (B : τ → α → τ ⊕ ρ) : τ → List α → τ ⊕ ρ
  | s, [] => .inl s
  | s, x :: xs => match B s x with | .inl s' => runL B s' xs | .inr r => .inr r
theorem scanL {τ ρ α : Type} [Inhabited α] (xs : List α) (L : Nat → τ × Int → Option ((τ × Int) ⊕ ρ)) (B : τ → α → τ ⊕ ρ) (I : Nat → τ → Prop)
    (step : ∀ m s i, i < xs.length → I i s → L (m + 1) (s, (i : Int)) = match B s (rd xs (i : Int)) with | .inr r => some (.inr r) | .inl s' => L m (s', (i : Int) + 1))
    (stop : ∀ m s, L (m + 1) (s, (xs.length : Int)) = some (.inl (s, (xs.length : Int)))) (hI : ∀ s i, i < xs.length → I i s → ∀ s', B s (rd xs (i : Int)) = .inl s' → I (i + 1) s')
    (m : Nat) (hm : xs.length < m) (s : τ) (h0 : I 0 s) : L m (s, 0) = some (match runL B s xs with | .inl s' => .inl (s', (xs.length : Int)) | .inr r => .inr r) := by
  have key : ∀ k i s m, i + k = xs.length → k < m → I i s → L m (s, (i : Int)) = some (match runL B s (xs.drop i) with | .inl s' => .inl (s', (xs.length : Int)) | .inr r => .inr r) := by
    intro k
    induction k with
    | zero =>
      intro i s m hi hm h
      obtain ⟨m, rfl⟩ : ∃ q, m = q + 1 := ⟨m - 1, by omega⟩
      have : i = xs.length := by omega
      subst this
      rw [stop, List.drop_length]; rfl
    | succ k ih =>
      intro i s m hi hm h
      obtain ⟨m, rfl⟩ : ∃ q, m = q + 1 := ⟨m - 1, by omega⟩
      have hil : i < xs.length := by omega
      have e : rd xs (i : Int) = xs[i] := by rw [rd_nat, List.getD_eq_getElem?_getD, List.getElem?_eq_getElem hil]; rfl
      have hn := hI s i hil h
      rw [step m s i hil h, List.drop_eq_getElem_cons hil, runL, ← e]
      cases hb : B s (rd xs (i : Int)) with
      | inr r => rfl
      | inl s' => simpa using ih (i + 1) s' m (by omega) (by omega) (hn s' hb)
  simpa using key xs.length 0 s m (by omega) hm h0

/-! ## Names -/
def letterP (c : Int) : Prop := (65 ≤ c ∧ c ≤ 90) ∨ (97 ≤ c ∧ c ≤ 122) ∨ c = 95
def moreP (c : Int) : Prop := letterP c ∨ (48 ≤ c ∧ c ≤ 57)
def nameP (s : ByteArray) : Prop := 1 ≤ s.size ∧ s.size ≤ 32 ∧ s ≠ (⟨#[115, 116, 97, 114, 116]⟩ : ByteArray) ∧ letterP (bt s 0) ∧ ∀ i : Nat, i < s.size → moreP (bt s (i : Int))
theorem some_iff {b : Bool} {p : Prop} : (∃ q, some b = some q ∧ (q = true ↔ p)) ↔ (b = true ↔ p) := ⟨fun ⟨q, h1, h2⟩ => by cases h1; exact h2, fun h => ⟨b, rfl, h⟩⟩
theorem letter_spec (K : Nat) (c : Int) : ∃ b, lex_letter K c = some b ∧ (b = true ↔ letterP c) := by
  unfold lex_letter letterP
  repeat' split
  all_goals refine ⟨_, rfl, ?_⟩
  all_goals first | simp only [true_iff, decide_eq_true_eq] | skip
  all_goals omega
theorem more_spec (K : Nat) (c : Int) : ∃ b, lex_more K c = some b ∧ (b = true ↔ moreP c) := by
  obtain ⟨b, hb, hl⟩ := letter_spec K c
  unfold lex_more moreP
  rw [hb, Option.bind_some]
  repeat' split
  all_goals refine ⟨_, rfl, ?_⟩
  all_goals simp only [true_iff, decide_eq_true_eq, Bool.false_eq_true, false_iff] at *
  all_goals rw [← hl]
  all_goals simp_all
  all_goals omega
theorem rletter_spec (K : Nat) (c : Int) : ∃ b, templeref1_letter K c = some b ∧ (b = true ↔ letterP c) := by
  unfold templeref1_letter letterP
  repeat' split
  all_goals refine ⟨_, rfl, ?_⟩
  all_goals first | simp only [true_iff, decide_eq_true_eq] | skip
  all_goals omega
theorem rdigit_spec (K : Nat) (c : Int) : ∃ b, templeref1_digit K c = some b ∧ (b = true ↔ 48 ≤ c ∧ c ≤ 57) := by
  unfold templeref1_digit
  repeat' split
  all_goals refine ⟨_, rfl, ?_⟩
  all_goals simp only [decide_eq_true_eq, Bool.false_eq_true, false_iff]
  all_goals omega
/-- A loop that asks each. -/
theorem ask_all {n K : Nat} {L : Nat → Int → Option (Int ⊕ Bool)} {p : Nat → Prop} (hn : n < K) (step : ∀ m i, i < n → (p i ∧ L (m + 1) (i : Int) = L m ((i : Int) + 1)) ∨ (¬ p i ∧ L (m + 1) (i : Int) = some (.inr false)))
    (stop : ∀ m, L (m + 1) (n : Int) = some (.inl (n : Int))) : (L K 0 = some (.inl (n : Int)) ∧ ∀ i, i < n → p i) ∨ (L K 0 = some (.inr false) ∧ ¬ ∀ i, i < n → p i) := by
  have key : ∀ k i m, i + k = n → k < m → (L m (i : Int) = some (.inl (n : Int)) ∧ ∀ j, i ≤ j → j < n → p j) ∨ (L m (i : Int) = some (.inr false) ∧ ¬ ∀ j, i ≤ j → j < n → p j) := by
    intro k
    induction k with
    | zero =>
      intro i m hi hm
      obtain ⟨m, rfl⟩ : ∃ q, m = q + 1 := ⟨m - 1, by omega⟩
      have : i = n := by omega
      subst this
      exact .inl ⟨stop m, fun j h1 h2 => by omega⟩
    | succ k ih =>
      intro i m hi hm
      obtain ⟨m, rfl⟩ : ∃ q, m = q + 1 := ⟨m - 1, by omega⟩
      rcases step m i (by omega) with ⟨hp, he⟩ | ⟨hp, he⟩
      · rw [he]
        have := ih (i + 1) m (by omega) (by omega)
        rw [show ((i + 1 : Nat) : Int) = (i : Int) + 1 by omega] at this
        rcases this with ⟨h1, h2⟩ | ⟨h1, h2⟩
        · refine .inl ⟨h1, fun j q1 q2 => ?_⟩
          rcases Nat.eq_or_lt_of_le q1 with rfl | q1
          · exact hp
          · exact h2 j q1 q2
        · exact .inr ⟨h1, fun h => h2 fun j q1 q2 => h j (by omega) q2⟩
      · exact .inr ⟨he, fun h => hp (h i (Nat.le_refl _) (by omega))⟩
  have := key n 0 K (by omega) hn
  rw [show ((0 : Nat) : Int) = 0 from rfl] at this
  rcases this with ⟨h1, h2⟩ | ⟨h1, h2⟩
  · exact .inl ⟨h1, fun i hi => h2 i (Nat.zero_le _) hi⟩
  · exact .inr ⟨h1, fun h => h2 fun j _ hj => h j hj⟩
theorem lexName_spec (K : Nat) (hK : 1000 ≤ K) (s : ByteArray) : ∃ b, lex_Name K s = some b ∧ (b = true ↔ nameP s) := by
  unfold lex_Name nameP
  by_cases h1 : s = (⟨#[]⟩ : ByteArray)
  · rw [if_pos h1]; refine ⟨_, rfl, ?_⟩
    subst h1
    simp only [Bool.false_eq_true, false_iff]
    exact fun h => absurd h.1 (by decide)
  rw [if_neg h1]
  by_cases h2 : 32 < (s.size : Int)
  · rw [if_pos h2]; exact ⟨_, rfl, by simp; omega⟩
  rw [if_neg h2]
  have h0 : 0 < (s.size : Int) := by
    rcases Nat.eq_zero_or_pos s.size with h | h
    · exfalso; apply h1
      apply ByteArray.ext
      exact Array.eq_empty_of_size_eq_zero h
    · omega
  by_cases h3 : s = (⟨#[115, 116, 97, 114, 116]⟩ : ByteArray)
  · rw [if_pos h3]; exact ⟨_, rfl, by simp [h3]⟩
  rw [if_neg h3, if_pos h0]
  obtain ⟨b, hb, hl⟩ := letter_spec K (bt s 0)
  rw [hb, Option.bind_some]
  cases b with
  | false => exact ⟨false, rfl, by simp only [Bool.false_eq_true, false_iff]; exact fun h => absurd (hl.2 h.2.2.2.1) (by decide)⟩
  | true =>
    rw [if_neg (by decide)]
    rcases ask_all (n := s.size) (K := K) (L := lex_Name.l0 K s) (p := fun i => moreP (bt s (i : Int))) (by omega) (fun m i hi => by
      obtain ⟨q, hq, hm⟩ := more_spec K (bt s (i : Int))
      simp only [lex_Name.l0]
      rw [if_pos (by omega), if_pos (Int.natCast_nonneg i), hq, Option.bind_some, wr (a := (i : Int) + 1) (by omega) (by omega)]
      cases q with
      | true => exact .inl ⟨hm.1 rfl, rfl⟩
      | false => exact .inr ⟨fun h => absurd (hm.2 h) (by decide), rfl⟩) (fun m => by simp only [lex_Name.l0]; rw [if_neg (by omega)]) with ⟨h4, h5⟩ | ⟨h4, h5⟩
    · rw [h4]; exact ⟨true, rfl, by simp only [true_iff]; exact ⟨by omega, by omega, h3, hl.1 rfl, h5⟩⟩
    · rw [h4]; exact ⟨false, rfl, by simp only [Bool.false_eq_true, false_iff]; exact fun h => h5 h.2.2.2.2⟩
theorem rName_spec (K : Nat) (hK : 1000 ≤ K) (s : ByteArray) : ∃ b, templeref1_nameMay K s = some b ∧ (b = true ↔ nameP s) := by
  unfold templeref1_nameMay nameP
  by_cases h1 : (s.size : Int) < 1
  · rw [if_pos h1]; exact ⟨_, rfl, by simp; omega⟩
  rw [if_neg h1]
  by_cases h2 : 32 < (s.size : Int)
  · rw [if_pos h2]; exact ⟨_, rfl, by simp; omega⟩
  rw [if_neg h2]
  have h0 : 0 < (s.size : Int) := by omega
  by_cases h3 : s = (⟨#[115, 116, 97, 114, 116]⟩ : ByteArray)
  · rw [if_pos h3]; exact ⟨_, rfl, by simp [h3]⟩
  rw [if_neg h3, if_pos h0]
  obtain ⟨b, hb, hl⟩ := rletter_spec K (bt s 0)
  rw [hb, Option.bind_some]
  cases b with
  | false => exact ⟨false, rfl, by simp only [Bool.false_eq_true, false_iff]; exact fun h => absurd (hl.2 h.2.2.2.1) (by decide)⟩
  | true =>
    rw [if_neg (by decide)]
    rcases ask_all (n := s.size) (K := K) (L := templeref1_nameMay.l0 K s) (p := fun i => moreP (bt s (i : Int))) (by omega) (fun m i hi => by
      obtain ⟨q, hq, hm⟩ := rletter_spec K (bt s (i : Int))
      obtain ⟨q2, hq2, hm2⟩ := rdigit_spec K (bt s (i : Int))
      simp only [templeref1_nameMay.l0]
      rw [if_pos (by omega), if_pos (Int.natCast_nonneg i), hq, Option.bind_some, wr (a := (i : Int) + 1) (by omega) (by omega)]
      unfold moreP
      cases q with
      | true => exact .inl ⟨.inl (hm.1 rfl), rfl⟩
      | false =>
        simp only [Bool.not_false, if_true, hq2, Option.bind_some]
        cases q2 with
        | true => exact .inl ⟨.inr (hm2.1 rfl), rfl⟩
        | false => exact .inr ⟨fun h => h.elim (fun h => absurd (hm.2 h) (by decide)) (fun h => absurd (hm2.2 h) (by decide)), rfl⟩) (fun m => by simp only [templeref1_nameMay.l0]; rw [if_neg (by omega)]) with ⟨h4, h5⟩ | ⟨h4, h5⟩
    · rw [h4]; exact ⟨true, rfl, by simp only [true_iff]; exact ⟨by omega, by omega, h3, hl.1 rfl, h5⟩⟩
    · rw [h4]; exact ⟨false, rfl, by simp only [Bool.false_eq_true, false_iff]; exact fun h => h5 h.2.2.2.2⟩

/-! ## Rows of names -/
def namesP (ns : List ByteArray) : Prop := 1 ≤ ns.length ∧ ns.length ≤ 64 ∧ (∀ s ∈ ns, nameP s) ∧ ns.Nodup
theorem mget_cons {κ ν : Type} [DecidableEq κ] {p : κ × ν} {es : List (κ × ν)} {q : κ} : mget (p :: es) q = if p.1 = q then some p.2 else mget es q := by
  unfold mget
  rw [List.find?_cons]
  by_cases h : p.1 = q <;> simp [h]
theorem mgetD_mput {κ : Type} [DecidableEq κ] {es : List (κ × Bool)} {k q : κ} : mgetD false (mput es k true) q = true ↔ q = k ∨ mgetD false es q = true := by
  unfold mgetD
  induction es with
  | nil =>
    rw [mput, mget_cons]
    by_cases h : k = q
    · simp [h]
    · simp [h, Ne.symm h, mget]
  | cons p es ih =>
    rw [mput]
    split
    · rename_i h
      rw [mget_cons, mget_cons, h]
      by_cases h2 : k = q
      · simp [h2]
      · simp [h2, Ne.symm h2]
    · rename_i h
      rw [mget_cons, mget_cons]
      by_cases h2 : p.1 = q
      · simp only [if_pos h2, Option.getD_some]
        refine ⟨.inr, fun h3 => h3.elim (fun h4 => absurd (h2.trans h4) h) id⟩
      · simp only [if_neg h2]
        exact ih
open Classical in
theorem names_run (es : List (ByteArray × Bool)) : ∀ ns : List ByteArray, ((∃ es', runL (fun es s => if nameP s then if mgetD false es s = true then .inr false else .inl (mput es s true) else .inr false) es ns = .inl es') ∧ (∀ s ∈ ns, nameP s) ∧ ns.Nodup ∧ ∀ s ∈ ns, ¬ mgetD false es s = true) ∨ (runL (fun es s => if nameP s then if mgetD false es s = true then .inr false else .inl (mput es s true) else .inr false) es ns = (.inr false : List (ByteArray × Bool) ⊕ Bool) ∧ ¬ ((∀ s ∈ ns, nameP s) ∧ ns.Nodup ∧ ∀ s ∈ ns, ¬ mgetD false es s = true))
  | [] => .inl ⟨⟨es, rfl⟩, by simp, List.nodup_nil, by simp⟩
  | s :: ns => by
    unfold runL
    by_cases h1 : nameP s
    · by_cases h2 : mgetD false es s = true
      · simp only [if_pos h1, if_pos h2]
        exact .inr ⟨trivial, fun h => h.2.2 s (.head _) h2⟩
      · simp only [if_pos h1, if_neg h2]
        have hm : ∀ q, mgetD false (mput es s true) q = true ↔ q = s ∨ mgetD false es q = true := fun q => mgetD_mput
        rcases names_run (mput es s true) ns with ⟨h3, h4, h5, h6⟩ | ⟨h3, h4⟩
        · refine .inl ⟨h3, fun q hq => ?_, List.nodup_cons.2 ⟨fun hs => h6 s hs ((hm s).2 (.inl rfl)), h5⟩, fun q hq => ?_⟩
          · rcases List.mem_cons.1 hq with rfl | hq
            · exact h1
            · exact h4 q hq
          · rcases List.mem_cons.1 hq with rfl | hq
            · exact h2
            · exact fun h => h6 q hq ((hm q).2 (.inr h))
        · refine .inr ⟨h3, fun ⟨a1, a2, a3⟩ => h4 ⟨fun q hq => a1 q (.tail _ hq), (List.nodup_cons.1 a2).2, fun q hq h => ?_⟩⟩
          rcases (hm q).1 h with rfl | h
          · exact (List.nodup_cons.1 a2).1 hq
          · exact a3 q (.tail _ hq) h
    · simp only [if_neg h1]
      exact .inr ⟨trivial, fun h => h1 (h.1 s (.head _))⟩
open Classical in
theorem names_spec (K : Nat) (hK : 1000 ≤ K) (ns : List ByteArray) : ∃ b, gram_names K ns = some b ∧ (b = true ↔ namesP ns) := by
  unfold gram_names namesP
  split
  · exact ⟨_, rfl, by simp; omega⟩
  split
  · exact ⟨_, rfl, by simp; omega⟩
  rename_i h1 h2
  have hs := scanL ns (gram_names.l0 K ns) (fun es s => if nameP s then if mgetD false es s = true then .inr false else .inl (mput es s true) else .inr false) (fun _ _ => True) (fun m s i hi _ => by
    obtain ⟨b, hb, hp⟩ := lexName_spec K hK (rd ns (i : Int))
    simp only [gram_names.l0]
    rw [if_pos (by omega), if_pos (Int.natCast_nonneg i), hb, Option.bind_some, wr (a := (i : Int) + 1) (by omega) (by omega)]
    cases b with
    | false => rw [if_pos (by decide), if_neg (fun h => absurd (hp.2 h) (by decide))]
    | true =>
      rw [if_neg (by decide), if_pos (hp.1 rfl)]
      split <;> rfl) (fun m s => by simp only [gram_names.l0]; rw [if_neg (by omega)]) (fun _ _ _ _ _ _ => trivial) K (by omega) [] trivial
  rw [hs]
  rcases names_run [] ns with ⟨⟨es', h3⟩, h4, h5, h6⟩ | ⟨h3, h4⟩
  · rw [h3]; exact ⟨true, rfl, by simp only [true_iff]; exact ⟨by omega, by omega, h4, h5⟩⟩
  · rw [h3]; exact ⟨false, rfl, by simp only [Bool.false_eq_true, false_iff]; exact fun h => h4 ⟨h.2.2.1, h.2.2.2, fun s _ h => by simp [mgetD, mget] at h⟩⟩
theorem find_spec (K : Nat) (hK : 1000 ≤ K) (ns : List ByteArray) (hl : ns.length ≤ 64) (s : ByteArray) : templeref1_find K ns s = some (match firstOf (fun i => if rd ns (i : Int) = s then some (i : Int) else none) ns.length 0 with | some i => i | none => -1) := by
  have := scan ns.length (templeref1_find.l0 K ns s) (fun i => if rd ns (i : Int) = s then some (i : Int) else none) (fun m i hi => by
    simp only [templeref1_find.l0]
    rw [if_pos (by omega), if_pos (Int.natCast_nonneg i), wr (a := (i : Int) + 1) (by omega) (by omega)]
    split <;> rfl) (fun m => by simp only [templeref1_find.l0]; rw [if_neg (by omega)]) ns.length 0 K (by omega) (by omega)
  rw [show ((0 : Nat) : Int) = 0 from rfl] at this
  unfold templeref1_find
  rw [this]
  generalize firstOf _ _ _ = o
  cases o <;> rfl
/-- The first place of the i-th is i, just if none ahead of it is the same. -/
theorem find_at (K : Nat) (hK : 1000 ≤ K) (ns : List ByteArray) (hl : ns.length ≤ 64) (i : Nat) (hi : i < ns.length) : ∃ q, templeref1_find K ns (rd ns (i : Int)) = some q ∧ (q = (i : Int) ↔ ∀ j : Nat, j < i → rd ns (j : Int) ≠ rd ns (i : Int)) := by
  refine ⟨_, find_spec K hK ns hl _, ?_⟩
  cases hf : firstOf (fun k => if rd ns (k : Int) = rd ns (i : Int) then some (k : Int) else none) ns.length 0 with
  | none =>
    have := firstOf_none.1 hf i (by omega) (by omega)
    rw [if_pos rfl] at this; cases this
  | some r =>
    obtain ⟨j, _, h2, h3, h4⟩ := firstOf_some hf
    split at h3
    · rename_i he
      cases h3
      simp only
      constructor
      · intro e k hk hke
        have e : j = i := by omega
        subst e
        have := h4 k (by omega) hk
        rw [if_pos hke] at this; cases this
      · intro h
        rcases Nat.lt_trichotomy j i with hlt | rfl | hlt
        · exact absurd he (h j hlt)
        · rfl
        · have := h4 i (by omega) hlt
          rw [if_pos rfl] at this; cases this
    · cases h3
theorem nodup_rd (ns : List ByteArray) : ns.Nodup ↔ ∀ i, i < ns.length → ∀ j : Nat, j < i → rd ns (j : Int) ≠ rd ns (i : Int) := by
  have e : ∀ i (h : i < ns.length), rd ns (i : Int) = ns[i] := fun i h => by rw [rd_nat, List.getD_eq_getElem?_getD, List.getElem?_eq_getElem h]; rfl
  rw [List.Nodup, List.pairwise_iff_getElem]
  constructor
  · intro h i hi j hj
    rw [e i hi, e j (by omega)]
    exact h j i (by omega) hi hj
  · intro h i j hi hj hij
    have := h j hj i hij
    rwa [e i hi, e j hj] at this
theorem rnames_spec (K : Nat) (hK : 1000 ≤ K) (g : Grammar) (h1 : 1 ≤ g.Names.length) (h2 : g.Names.length ≤ 64) : (templeref1_May.l0 K g K 0 = some (.inl (g.Names.length : Int)) ∧ namesP g.Names) ∨ (templeref1_May.l0 K g K 0 = some (.inr false) ∧ ¬ namesP g.Names) := by
  rcases ask_all (n := g.Names.length) (K := K) (L := templeref1_May.l0 K g) (p := fun i => nameP (rd g.Names (i : Int)) ∧ ∀ j : Nat, j < i → rd g.Names (j : Int) ≠ rd g.Names (i : Int)) (by omega) (fun m i hi => by
    obtain ⟨b, hb, hp⟩ := rName_spec K hK (rd g.Names (i : Int))
    obtain ⟨q, hq, hf⟩ := find_at K hK g.Names h2 i hi
    simp only [templeref1_May.l0]
    rw [if_pos (by omega), if_pos (Int.natCast_nonneg i), hb, Option.bind_some, wr (a := (i : Int) + 1) (by omega) (by omega)]
    cases b with
    | false => exact .inr ⟨fun h => absurd (hp.2 h.1) (by decide), rfl⟩
    | true =>
      rw [if_neg (by decide), hq, Option.bind_some]
      by_cases he : q = (i : Int)
      · rw [if_neg (fun h => h he)]; exact .inl ⟨⟨hp.1 rfl, hf.1 he⟩, rfl⟩
      · rw [if_pos he]; exact .inr ⟨fun h => he (hf.2 h.2), rfl⟩) (fun m => by simp only [templeref1_May.l0]; rw [if_neg (by omega)]) with ⟨h4, h5⟩ | ⟨h4, h5⟩
  · refine .inl ⟨h4, h1, h2, fun s hs => ?_, (nodup_rd _).2 fun i hi => (h5 i hi).2⟩
    obtain ⟨i, hi, rfl⟩ := List.getElem_of_mem hs
    have := (h5 i hi).1
    rwa [rd_nat, List.getD_eq_getElem?_getD, List.getElem?_eq_getElem hi] at this
  · exact .inr ⟨h4, fun h => h5 fun i hi => ⟨h.2.2.1 _ (rd_mem (Int.natCast_nonneg i) (by omega)), (nodup_rd _).1 h.2.2.2 i hi⟩⟩
end Go.Proofs.Ytnkpelhaablheaa
