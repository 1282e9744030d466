/-
  Law DependsRules of chapter 6, in plain Lean. Own work; no claim stands here.
-/
import Derived.Test.YtnkpelhaablheaaPEdges2
namespace Go.Proofs.Ytnkpelhaablheaa
open S Go.Sort
set_option linter.unusedVariables false
set_option linter.unusedSimpArgs false
set_option maxRecDepth 100000

theorem has_spec (K : Nat) (es : List Edge) (x : Edge) (h : es.length < K) (hl : es.length ≤ 1000000) : templelaw6_has K es x = some (decide (x ∈ es)) := by
  have := scan es.length (templelaw6_has.l0 K es x) (fun i => if rd es (i : Int) = x then some true else none) (fun m i hi => by
    simp only [templelaw6_has.l0]
    rw [if_pos (by omega), if_pos (Int.natCast_nonneg i), wr (a := (i : Int) + 1) (by omega) (by omega)]
    split <;> rfl) (fun m => by simp only [templelaw6_has.l0]; rw [if_neg (by omega)]) es.length 0 K (by omega) h
  rw [show ((0 : Nat) : Int) = 0 from rfl] at this
  unfold templelaw6_has
  rw [this]
  cases hf : firstOf (fun i => if rd es (i : Int) = x then some true else none) es.length 0 with
  | some r =>
    obtain ⟨j, _, hj, h3, _⟩ := firstOf_some hf
    split at h3
    · rename_i he
      cases h3
      have hm : x ∈ es := he ▸ rd_mem (Int.natCast_nonneg j) (by omega)
      simp [brk, hm]
    · cases h3
  | none =>
    have hn : ¬ x ∈ es := fun hm => by
      obtain ⟨j, hj, hx⟩ := List.getElem_of_mem hm
      have := firstOf_none.1 hf j (by omega) (by omega)
      rw [rd_nat, List.getD_eq_getElem?_getD, List.getElem?_eq_getElem hj, Option.getD_some, if_pos hx] at this
      cases this
    simp [brk, hn]
/-- Sorted and no edge twice: each is behind the one ahead of it. -/
theorem edges_next (g : Grammar) (i : Nat) (hi : i + 1 < (edgesOf g).length) : (rd (edgesOf g) ((i : Int))).From < (rd (edgesOf g) ((i + 1 : Nat) : Int)).From ∨ ((rd (edgesOf g) ((i : Int))).From = (rd (edgesOf g) ((i + 1 : Nat) : Int)).From ∧ ((rd (edgesOf g) ((i : Int))).To < (rd (edgesOf g) ((i + 1 : Nat) : Int)).To ∨ ((rd (edgesOf g) ((i : Int))).To = (rd (edgesOf g) ((i + 1 : Nat) : Int)).To ∧ (rd (edgesOf g) ((i : Int))).Neg = false ∧ (rd (edgesOf g) ((i + 1 : Nat) : Int)).Neg = true))) := by
  have hp : (edgesOf g).Pairwise fun x y => (!(ltOf rowC y x)) = true := by
    refine List.pairwise_mergeSort (fun a b c h1 h2 => ?_) (fun a b => ?_) _
    · have := rowC_swo.ntrans c b a (by simpa using h2) (by simpa using h1)
      simpa using this
    · by_cases h : ltOf rowC b a = true
      · have : ltOf rowC a b = false := by
          cases hab : ltOf rowC a b with
          | false => rfl
          | true => have := rowC_swo.trans _ _ _ h hab; rw [rowC_swo.irrefl] at this; cases this
        simp [this]
      · simp [h]
  have e1 : rd (edgesOf g) ((i : Int)) = (edgesOf g)[i] := by rw [rd_nat, List.getD_eq_getElem?_getD, List.getElem?_eq_getElem (by omega)]; rfl
  have e2 : rd (edgesOf g) ((i + 1 : Nat) : Int) = (edgesOf g)[i + 1] := by rw [rd_nat, List.getD_eq_getElem?_getD, List.getElem?_eq_getElem hi]; rfl
  rw [e1, e2]
  have h1 := List.pairwise_iff_getElem.1 hp i (i + 1) (by omega) hi (by omega)
  have h2 := List.pairwise_iff_getElem.1 (edges_nodup g) i (i + 1) (by omega) hi (by omega)
  rw [← rowC_lt]
  cases hc : ltOf rowC (edgesOf g)[i] (edgesOf g)[i + 1] with
  | true => rfl
  | false => exact absurd (rowC_anti _ _ hc (by simpa using h1)) h2

def hit (r : Rule) (c : Conjunct) (s : Symbol) (x : Edge) : Prop := r.Head = x.From ∧ c.Neg = x.Neg ∧ s.Name = x.To
instance (r : Rule) (c : Conjunct) (s : Symbol) (x : Edge) : Decidable (hit r c s x) := by unfold hit; infer_instance
theorem stands2 (K : Nat) (g : Grammar) (x : Edge) (i j : Int) (h : (rd (rd g.Rules i).Conj j).Seq.length ≤ 64) (hK : 1000 ≤ K) :
    templelaw6_stands.l2 K g x i j K 0 = some (match firstOf (fun k => if hit (rd g.Rules i) (rd (rd g.Rules i).Conj j) (rd (rd (rd g.Rules i).Conj j).Seq (k : Int)) x then some (.inr (.inr true)) else none) (rd (rd g.Rules i).Conj j).Seq.length 0 with | some r => .inr r | none => .inl ((rd (rd g.Rules i).Conj j).Seq.length : Int)) := by
  have := scan (rd (rd g.Rules i).Conj j).Seq.length (templelaw6_stands.l2 K g x i j) (fun k => if hit (rd g.Rules i) (rd (rd g.Rules i).Conj j) (rd (rd (rd g.Rules i).Conj j).Seq (k : Int)) x then some (.inr (.inr true)) else none) (fun m k hk => by
    simp only [templelaw6_stands.l2, hit]
    rw [if_pos (by omega), if_pos (Int.natCast_nonneg k), wr (a := (k : Int) + 1) (by omega) (by omega)]
    by_cases h1 : (rd g.Rules i).Head = x.From
    · by_cases h2 : (rd (rd g.Rules i).Conj j).Neg = x.Neg
      · by_cases h3 : (rd (rd (rd g.Rules i).Conj j).Seq (k : Int)).Name = x.To <;> simp [h1, h2, h3]
      · simp [h1, h2]
    · simp [h1]) (fun m => by simp only [templelaw6_stands.l2]; rw [if_neg (by omega)]) (rd (rd g.Rules i).Conj j).Seq.length 0 K (by omega) (by omega)
  rw [show ((0 : Nat) : Int) = 0 from rfl] at this
  rw [this]
  generalize firstOf _ _ _ = o
  cases o <;> rfl

theorem first_any {α ρ β : Type} [Inhabited α] (xs : List α) (p : α → Bool) (r : ρ) (a : β) : (match firstOf (fun k => if p (rd xs (k : Int)) = true then some r else none) xs.length 0 with | some q => (.inr q : β ⊕ ρ) | none => .inl a) = if xs.any p = true then .inr r else .inl a := by
  cases hf : firstOf (fun k => if p (rd xs (k : Int)) = true then some r else none) xs.length 0 with
  | some q =>
    obtain ⟨j, _, hj, h3, _⟩ := firstOf_some hf
    split at h3
    · rename_i he
      cases h3
      rw [if_pos (List.any_eq_true.2 ⟨_, rd_mem (Int.natCast_nonneg j) (by omega), he⟩)]
    · cases h3
  | none =>
    rw [if_neg]
    intro hm
    obtain ⟨x, hx, hpx⟩ := List.any_eq_true.1 hm
    obtain ⟨j, hj, rfl⟩ := List.getElem_of_mem hx
    have := firstOf_none.1 hf j (by omega) (by omega)
    rw [rd_nat, List.getD_eq_getElem?_getD, List.getElem?_eq_getElem hj, Option.getD_some, if_pos hpx] at this
    cases this
def hitC (r : Rule) (x : Edge) (c : Conjunct) : Bool := c.Seq.any fun s => decide (hit r c s x)
def hitR (x : Edge) (r : Rule) : Bool := r.Conj.any (hitC r x)
theorem stands2' (K : Nat) (g : Grammar) (x : Edge) (i j : Int) (h : (rd (rd g.Rules i).Conj j).Seq.length ≤ 64) (hK : 1000 ≤ K) :
    templelaw6_stands.l2 K g x i j K 0 = some (if hitC (rd g.Rules i) x (rd (rd g.Rules i).Conj j) = true then .inr (.inr (.inr true)) else .inl ((rd (rd g.Rules i).Conj j).Seq.length : Int)) := by
  rw [stands2 K g x i j h hK]
  have := first_any (rd (rd g.Rules i).Conj j).Seq (fun s => decide (hit (rd g.Rules i) (rd (rd g.Rules i).Conj j) s x)) (.inr (.inr true) : Int ⊕ (Int ⊕ Bool)) ((rd (rd g.Rules i).Conj j).Seq.length : Int)
  simp only [decide_eq_true_eq] at this
  unfold hitC
  rw [← this]
  generalize firstOf _ _ _ = o
  cases o <;> rfl
theorem stands1 (K : Nat) (g : Grammar) (x : Edge) (i : Nat) (h : RuleBd (rd g.Rules (i : Int))) (hK : 1000 ≤ K) :
    templelaw6_stands.l1 K g x i K 0 = some (if hitR x (rd g.Rules (i : Int)) = true then .inr (.inr true) else .inl ((rd g.Rules (i : Int)).Conj.length : Int)) := by
  have h8 := h.1
  have := scan (rd g.Rules (i : Int)).Conj.length (templelaw6_stands.l1 K g x i) (fun k => if hitC (rd g.Rules (i : Int)) x (rd (rd g.Rules (i : Int)).Conj (k : Int)) = true then some (.inr true) else none) (fun m k hk => by
    simp only [templelaw6_stands.l1]
    rw [if_pos (Int.natCast_nonneg i), if_pos (by omega), if_pos (Int.natCast_nonneg k), wr (a := (k : Int) + 1) (by omega) (by omega), stands2' K g x i k (h.2 _ (rd_mem (Int.natCast_nonneg k) (by omega))) hK]
    split <;> rfl) (fun m => by simp only [templelaw6_stands.l1]; rw [if_pos (Int.natCast_nonneg i), if_neg (by omega)]) (rd g.Rules (i : Int)).Conj.length 0 K (by omega) (by omega)
  rw [show ((0 : Nat) : Int) = 0 from rfl] at this
  rw [this]
  have := first_any (rd g.Rules (i : Int)).Conj (hitC (rd g.Rules (i : Int)) x) (.inr true : Int ⊕ Bool) ((rd g.Rules (i : Int)).Conj.length : Int)
  unfold hitR
  rw [← this]
  generalize firstOf _ _ _ = o
  cases o <;> rfl
theorem stands_spec (K : Nat) (g : Grammar) (x : Edge) (h : Bd g) (hK : 1000 ≤ K) : templelaw6_stands K g x = some (g.Rules.any (hitR x)) := by
  have h256 := h.1
  have := scan g.Rules.length (templelaw6_stands.l0 K g x) (fun i => if hitR x (rd g.Rules (i : Int)) = true then some true else none) (fun m i hi => by
    simp only [templelaw6_stands.l0]
    rw [if_pos (by omega), wr (a := (i : Int) + 1) (by omega) (by omega), stands1 K g x i (h.2 _ (rd_mem (Int.natCast_nonneg i) (by omega))) hK]
    split <;> rfl) (fun m => by simp only [templelaw6_stands.l0]; rw [if_neg (by omega)]) g.Rules.length 0 K (by omega) (by omega)
  rw [show ((0 : Nat) : Int) = 0 from rfl] at this
  have h2 := first_any g.Rules (hitR x) true (g.Rules.length : Int)
  unfold templelaw6_stands
  rw [this]
  generalize firstOf _ _ _ = o at h2
  cases hb : g.Rules.any (hitR x) with
  | true =>
    rw [hb, if_pos rfl] at h2
    cases o with
    | none => cases h2
    | some q => cases h2; rfl
  | false =>
    rw [hb, if_neg (by decide)] at h2
    cases o with
    | none => rfl
    | some q => cases h2
theorem hits_of_occ {g : Grammar} {x : Edge} (h : Occ g x) : g.Rules.any (hitR x) = true := by
  obtain ⟨r, hr, c, hc, s, hs, _, rfl⟩ := h
  refine List.any_eq_true.2 ⟨r, hr, List.any_eq_true.2 ⟨c, hc, List.any_eq_true.2 ⟨s, hs, ?_⟩⟩⟩
  exact decide_eq_true ⟨rfl, rfl, rfl⟩
/-! ## The law's own loops -/
theorem law_l0 (K : Nat) (g : Grammar) (h : (edgesOf g).length ≤ 131072) : ∀ (k j m : Nat), j + 1 + k = (edgesOf g).length → k < m → ∃ q, templelaw6_DependsRules.l0 K (edgesOf g, 0) m (((j + 1 : Nat) : Int)) = some (.inl q)
  | 0, j, m, hj, hm => by
    obtain ⟨m, rfl⟩ : ∃ q, m = q + 1 := ⟨m - 1, by omega⟩
    exact ⟨_, by simp only [templelaw6_DependsRules.l0]; rw [if_neg (by omega)]⟩
  | k + 1, j, m, hj, hm => by
    obtain ⟨m, rfl⟩ : ∃ q, m = q + 1 := ⟨m - 1, by omega⟩
    obtain ⟨q, hq⟩ := law_l0 K g h k (j + 1) m (by omega) (by omega)
    refine ⟨q, ?_⟩
    have hn := edges_next g j (by omega)
    have e1 : IntKind.wrap .i64 ((((j + 1 : Nat) : Int)) - 1) = (j : Int) := by rw [wr (by omega) (by omega)]; omega
    have e2 : IntKind.wrap .i64 ((((j + 1 : Nat) : Int)) + 1) = (((j + 1 + 1 : Nat) : Int)) := by rw [wr (by omega) (by omega)]; omega
    simp only [templelaw6_DependsRules.l0]
    rw [if_pos (by omega), e1, e2, if_pos (by omega), if_pos (by omega), if_pos (by omega), Option.bind_some]
    generalize rd (edgesOf g) (j : Int) = a at hn ⊢
    generalize rd (edgesOf g) ((j + 1 : Nat) : Int) = b at hn ⊢
    rcases hn with h1 | ⟨h1, h2 | ⟨h2, h3, h4⟩⟩
    · rw [if_neg (by omega), if_neg (by omega), hq]
    · rw [if_neg (by omega), if_pos h1, if_neg (by omega), if_neg (by omega), hq]
    · rw [if_neg (by omega), if_pos h1, if_neg (by omega), if_pos h2, if_neg (by simp [h3]), if_neg (by simp [h4]), hq]
theorem law_l1 (K : Nat) (hK : 1000 ≤ K) (g : Grammar) (hb : Bd g) (h : (edgesOf g).length ≤ 131072) : ∀ (k i m : Nat), i + k = (edgesOf g).length → k < m → templelaw6_DependsRules.l1 K g (edgesOf g, 0) m ((i : Int), (i : Int)) = some (((edgesOf g).length : Int), ((edgesOf g).length : Int))
  | 0, i, m, hi, hm => by
    obtain ⟨m, rfl⟩ : ∃ q, m = q + 1 := ⟨m - 1, by omega⟩
    simp only [templelaw6_DependsRules.l1]; rw [if_neg (by omega)]
    have : i = (edgesOf g).length := by omega
    rw [this]
  | k + 1, i, m, hi, hm => by
    obtain ⟨m, rfl⟩ : ∃ q, m = q + 1 := ⟨m - 1, by omega⟩
    have ih := law_l1 K hK g hb h k (i + 1) m (by omega) (by omega)
    simp only [templelaw6_DependsRules.l1]
    rw [if_pos (by omega), if_pos (by omega), stands_spec K g _ hb hK, Option.bind_some, hits_of_occ ((mem_edges g _).1 (rd_mem (by omega) (by omega))), if_pos rfl, wr (a := (i : Int) + 1) (by omega) (by omega)]
    simpa using ih
theorem firstOf_no {ρ : Type} (k i : Nat) : firstOf (fun _ => (none : Option ρ)) k i = none := firstOf_none.2 fun _ _ _ => rfl
theorem law_l4 (K : Nat) (hK : 200000 ≤ K) (g : Grammar) (h : (edgesOf g).length ≤ 131072) (i j : Nat) (hi : i < g.Rules.length) (hj : j < (rd g.Rules (i : Int)).Conj.length) (hb : (rd (rd g.Rules (i : Int)).Conj (j : Int)).Seq.length ≤ 64) :
    templelaw6_DependsRules.l4 K g (edgesOf g, 0) i j K 0 = some (.inl ((rd (rd g.Rules (i : Int)).Conj (j : Int)).Seq.length : Int)) := by
  have := scan (rd (rd g.Rules (i : Int)).Conj (j : Int)).Seq.length (templelaw6_DependsRules.l4 K g (edgesOf g, 0) i j) (fun _ => none) (fun m k hk => by
    simp only [templelaw6_DependsRules.l4]
    rw [if_pos (by omega), if_pos (Int.natCast_nonneg k), wr (a := (k : Int) + 1) (by omega) (by omega)]
    by_cases hn : 0 ≤ (rd (rd (rd g.Rules (i : Int)).Conj (j : Int)).Seq (k : Int)).Name
    · have ho : Occ g (⟨(rd g.Rules (i : Int)).Head, (rd (rd (rd g.Rules (i : Int)).Conj (j : Int)).Seq (k : Int)).Name, (rd (rd g.Rules (i : Int)).Conj (j : Int)).Neg⟩ : Edge) :=
        ⟨_, rd_mem (Int.natCast_nonneg i) (by omega), _, rd_mem (Int.natCast_nonneg j) (by omega), _, rd_mem (Int.natCast_nonneg k) (by omega), hn, rfl⟩
      rw [if_pos hn, has_spec K _ _ (by omega) (by omega), Option.bind_some, decide_eq_true ((mem_edges g _).2 ho)]
      rfl
    · rw [if_neg hn]) (fun m => by simp only [templelaw6_DependsRules.l4]; rw [if_neg (by omega)]) (rd (rd g.Rules (i : Int)).Conj (j : Int)).Seq.length 0 K (by omega) (by omega)
  rw [show ((0 : Nat) : Int) = 0 from rfl] at this
  rw [this, firstOf_no]
theorem law_l3 (K : Nat) (hK : 200000 ≤ K) (g : Grammar) (h : (edgesOf g).length ≤ 131072) (i : Nat) (hi : i < g.Rules.length) (hb : RuleBd (rd g.Rules (i : Int))) :
    templelaw6_DependsRules.l3 K g (edgesOf g, 0) i K 0 = some (.inl ((rd g.Rules (i : Int)).Conj.length : Int)) := by
  have h8 := hb.1
  have := scan (rd g.Rules (i : Int)).Conj.length (templelaw6_DependsRules.l3 K g (edgesOf g, 0) i) (fun _ => none) (fun m j hj => by
    simp only [templelaw6_DependsRules.l3]
    rw [if_pos (Int.natCast_nonneg i), if_pos (by omega), if_pos (Int.natCast_nonneg j), wr (a := (j : Int) + 1) (by omega) (by omega), law_l4 K hK g h i j hi hj (hb.2 _ (rd_mem (Int.natCast_nonneg j) (by omega)))]
    rfl) (fun m => by simp only [templelaw6_DependsRules.l3]; rw [if_pos (Int.natCast_nonneg i), if_neg (by omega)]) (rd g.Rules (i : Int)).Conj.length 0 K (by omega) (by omega)
  rw [show ((0 : Nat) : Int) = 0 from rfl] at this
  rw [this, firstOf_no]
theorem law_l2 (K : Nat) (hK : 200000 ≤ K) (g : Grammar) (h : (edgesOf g).length ≤ 131072) (hb : Bd g) :
    templelaw6_DependsRules.l2 K g (edgesOf g, 0) K 0 = some (.inl (g.Rules.length : Int)) := by
  have h256 := hb.1
  have := scan g.Rules.length (templelaw6_DependsRules.l2 K g (edgesOf g, 0)) (fun _ => none) (fun m i hi => by
    simp only [templelaw6_DependsRules.l2]
    rw [if_pos (by omega), wr (a := (i : Int) + 1) (by omega) (by omega), law_l3 K hK g h i hi (hb.2 _ (rd_mem (Int.natCast_nonneg i) (by omega)))]
    rfl) (fun m => by simp only [templelaw6_DependsRules.l2]; rw [if_neg (by omega)]) g.Rules.length 0 K (by omega) (by omega)
  rw [show ((0 : Nat) : Int) = 0 from rfl] at this
  rw [this, firstOf_no]
/-! ## The two grammars of 'awake' -/
def g1 : Grammar := (⟨(0 : Int), ([(⟨#[83]⟩ : ByteArray), (⟨#[65]⟩ : ByteArray)] : List ByteArray), ([(⟨(0 : Int), ([(⟨true, ([(⟨1, (0 : Int), (0 : Int)⟩ : Symbol), (⟨1, (0 : Int), (0 : Int)⟩ : Symbol)] : List Symbol)⟩ : Conjunct), (⟨false, ([(⟨(0 : Int), (0 : Int), (0 : Int)⟩ : Symbol)] : List Symbol)⟩ : Conjunct)] : List Conjunct)⟩ : Rule), (⟨1, ([(⟨false, ([] : (List Symbol))⟩ : Conjunct)] : List Conjunct)⟩ : Rule)] : List Rule)⟩ : Grammar)
def g0 : Grammar := (⟨(0 : Int), ([] : (List ByteArray)), ([] : (List Rule))⟩ : Grammar)
theorem may1 (K : Nat) : gram_May (K + 1000) g1 = some true := by kernel_rfl
theorem may0 (K : Nat) : gram_May (K + 1000) g0 = some false := by kernel_rfl
theorem keys1 : keysOf g1 = [(⟨0, 1, true⟩ : Edge), (⟨0, 0, false⟩ : Edge)] := by kernel_rfl
theorem edges1 : edgesOf g1 = [(⟨0, 0, false⟩ : Edge), (⟨0, 1, true⟩ : Edge)] := by
  have hp : (edgesOf g1).Pairwise fun x y => (!(ltOf rowC y x)) = true := by
    refine List.pairwise_mergeSort (fun a b c h1 h2 => ?_) (fun a b => ?_) _
    · have := rowC_swo.ntrans c b a (by simpa using h2) (by simpa using h1)
      simpa using this
    · by_cases h : ltOf rowC b a = true
      · have : ltOf rowC a b = false := by
          cases hab : ltOf rowC a b with
          | false => rfl
          | true => have := rowC_swo.trans _ _ _ h hab; rw [rowC_swo.irrefl] at this; cases this
        simp [this]
      · simp [h]
  refine perm_unique (r := fun x y => (!(ltOf rowC y x)) = true) (fun x y h1 h2 => rowC_anti _ _ (by simpa using h2) (by simpa using h1)) ((edges_perm g1).trans ?_) hp ?_
  · rw [keys1]; exact List.Perm.swap _ _ _
  · refine List.pairwise_cons.2 ⟨fun y hy => ?_, List.pairwise_singleton _ _⟩
    rw [List.mem_singleton] at hy; subst hy; kernel_rfl
theorem SameEdges_refl (K : Nat) (es : List Edge) (h : es.length < K) (hl : es.length ≤ 1000000) : templelaw0_SameEdges K es es = some true := by
  have := scan es.length (templelaw0_SameEdges.l0 K es es) (fun _ => none) (fun m i hi => by
    simp only [templelaw0_SameEdges.l0]
    rw [if_pos (by omega), if_pos (by omega), if_pos (by omega), if_neg (fun h => h rfl), wr (a := (i : Int) + 1) (by omega) (by omega)]) (fun m => by simp only [templelaw0_SameEdges.l0]; rw [if_neg (by omega)]) es.length 0 K (by omega) h
  rw [show ((0 : Nat) : Int) = 0 from rfl, firstOf_no] at this
  unfold templelaw0_SameEdges
  rw [if_neg (fun h => h rfl), this]
  rfl
theorem awake6 (K : Nat) (hK : 200000 ≤ K) : templelaw6_awake K = some true := by
  obtain ⟨K', rfl⟩ : ∃ q, K = q + 1000 := ⟨K - 1000, by omega⟩
  obtain ⟨b, hb, _, he⟩ := Edges_spec (K' + 1000) hK g1
  rw [may1] at hb
  cases hb
  obtain ⟨b, hb, _, he0⟩ := Edges_spec (K' + 1000) hK g0
  rw [may0] at hb
  cases hb
  unfold g1 at he
  unfold g0 at he0
  unfold templelaw6_awake
  rw [he, Option.bind_some, he0, Option.bind_some, if_pos rfl, if_neg Bool.false_ne_true]
  have e1 := edges1
  unfold g1 at e1
  rw [e1]
  simp only
  rw [SameEdges_refl _ _ (by show 2 < _; omega) (by show 2 ≤ _; omega)]
  rfl
theorem DependsRules_true (K : Nat) (hK : 200000 ≤ K) (g : Grammar) : templelaw6_DependsRules K g = some true := by
  obtain ⟨b, _, hb, he⟩ := Edges_spec K hK g
  unfold templelaw6_DependsRules
  rw [awake6 K hK, Option.bind_some, if_neg (by decide), he, Option.bind_some]
  cases b with
  | false => rfl
  | true =>
    have hbd := hb rfl
    have hl := edges_len g hbd
    rw [if_pos rfl]
    simp only [templelaw0_Num, Option.bind_some]
    rw [if_neg (fun h => h rfl)]
    have h0 : ∃ q, templelaw6_DependsRules.l0 K (edgesOf g, 0) K 1 = some (.inl q) := by
      by_cases hz : (edgesOf g).length = 0
      · obtain ⟨m, rfl⟩ : ∃ q, K = q + 1 := ⟨K - 1, by omega⟩
        exact ⟨1, by simp only [templelaw6_DependsRules.l0]; rw [if_neg (by omega)]⟩
      · exact law_l0 K g hl ((edgesOf g).length - 1) 0 K (by omega) (by omega)
    obtain ⟨q, hq⟩ := h0
    have h1 := law_l1 K (by omega) g hbd hl (edgesOf g).length 0 K (by omega) (by omega)
    rw [show ((0 : Nat) : Int) = 0 from rfl] at h1
    rw [hq]
    simp only [brk, Option.bind_some]
    rw [h1]
    simp only [Option.bind_some]
    rw [law_l2 K hK g hl hbd]
    simp
theorem DependsRules_holds (g : Grammar) : ∃ K, templelaw6_DependsRules K g = some true := ⟨200000, DependsRules_true 200000 (Nat.le_refl _) g⟩
end Go.Proofs.Ytnkpelhaablheaa
