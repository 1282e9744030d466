/-
  deps.Edges: which edges, each once. Own work; no claim stands here.
-/
import Derived.Test.YtnkpelhaablheaaPEdges
namespace Go.Proofs.Ytnkpelhaablheaa
open S Go.Sort
set_option linter.unusedVariables false
set_option linter.unusedSimpArgs false
set_option maxRecDepth 100000

theorem mput_keys {κ ν : Type} [DecidableEq κ] {es : List (κ × ν)} {k : κ} {v : ν} : ∀ e, e ∈ (mput es k v).map (·.1) ↔ e ∈ es.map (·.1) ∨ e = k := by
  induction es with
  | nil => intro e; simp [mput]
  | cons p es ih =>
    intro e
    rw [mput]
    split
    · rename_i h; subst h; simp only [List.map_cons, List.mem_cons]
      constructor
      · rintro (h | h)
        · exact .inl (.inl h)
        · exact .inl (.inr h)
      · rintro ((h | h) | h)
        · exact .inl h
        · exact .inr h
        · exact .inl h
    · simp only [List.map_cons, List.mem_cons, ih e]
      constructor
      · rintro (h | h | h)
        · exact .inl (.inl h)
        · exact .inl (.inr h)
        · exact .inr h
      · rintro ((h | h) | h)
        · exact .inl h
        · exact .inr (.inl h)
        · exact .inr (.inr h)
theorem mput_nodup {κ ν : Type} [DecidableEq κ] {es : List (κ × ν)} {k : κ} {v : ν} (h : (es.map (·.1)).Nodup) : ((mput es k v).map (·.1)).Nodup := by
  induction es with
  | nil => simp [mput]
  | cons p es ih =>
    rw [List.map_cons, List.nodup_cons] at h
    rw [mput]
    split
    · rename_i hp; subst hp; simp only [List.map_cons, List.nodup_cons]; exact h
    · rename_i hp
      simp only [List.map_cons, List.nodup_cons]
      refine ⟨fun hm => ?_, ih h.2⟩
      rcases (mput_keys _).1 hm with hm | hm
      · exact h.1 hm
      · exact hp hm
theorem mput_len {κ ν : Type} [DecidableEq κ] {es : List (κ × ν)} {k : κ} {v : ν} : (mput es k v).length ≤ es.length + 1 := by
  induction es with
  | nil => simp [mput]
  | cons p es ih => rw [mput]; split <;> simp <;> omega

/-- What holds of a fold, step by step. -/
theorem fold_mem {τ α : Type} (f : τ → α → τ) (In : τ → Edge → Prop) (Oc : α → Edge → Prop) (h : ∀ s a e, In (f s a) e ↔ In s e ∨ Oc a e) : ∀ (xs : List α) (s : τ) e, In (xs.foldl f s) e ↔ In s e ∨ ∃ a ∈ xs, Oc a e
  | [], s, e => by simp
  | x :: xs, s, e => by
    rw [List.foldl_cons, fold_mem f In Oc h xs, h]
    simp only [List.mem_cons, exists_eq_or_imp, or_assoc]
theorem fold_inv {τ α : Type} (f : τ → α → τ) (I : τ → Prop) (h : ∀ s a, I s → I (f s a)) : ∀ (xs : List α) (s : τ), I s → I (xs.foldl f s)
  | [], s, hs => hs
  | x :: xs, s, hs => fold_inv f I h xs _ (h s x hs)
theorem fold_len {τ α : Type} (f : τ → α → τ) (μ : τ → Nat) (B : Nat) : ∀ (xs : List α) (s : τ), (∀ s, ∀ a ∈ xs, μ (f s a) ≤ μ s + B) → μ (xs.foldl f s) ≤ μ s + xs.length * B
  | [], s, _ => by simp
  | x :: xs, s, h => by
    have h1 := h s x (.head _)
    have h2 := fold_len f μ B xs (f s x) (fun s a ha => h s a (.tail _ ha))
    rw [List.foldl_cons, List.length_cons, Nat.add_mul]; omega

def OccS (r : Rule) (c : Conjunct) (s : Symbol) (e : Edge) : Prop := 0 ≤ s.Name ∧ e = eOf r c s
def OccC (r : Rule) (c : Conjunct) (e : Edge) : Prop := ∃ s ∈ c.Seq, OccS r c s e
def OccR (r : Rule) (e : Edge) : Prop := ∃ c ∈ r.Conj, OccC r c e
/-- An edge stands in a rule. -/
def Occ (g : Grammar) (e : Edge) : Prop := ∃ r ∈ g.Rules, OccR r e
def InM (es : List (Edge × Bool)) (e : Edge) : Prop := e ∈ es.map (·.1)
theorem keys_occ (g : Grammar) (e : Edge) : e ∈ keysOf g ↔ Occ g e := by
  have h1 : ∀ r c es s e, InM (addS r c es s) e ↔ InM es e ∨ OccS r c s e := fun r c es s e => by
    unfold addS OccS InM
    split
    · rename_i h; rw [mput_keys]; simp [h]
    · rename_i h; simp [h]
  have h2 : ∀ r es c e, InM (addC r es c) e ↔ InM es e ∨ OccC r c e := fun r es c e => fold_mem _ InM (OccS r c) (h1 r c) _ _ _
  have h3 : ∀ es r e, InM (addR es r) e ↔ InM es e ∨ OccR r e := fun es r e => fold_mem _ InM (OccC r) (h2 r) _ _ _
  have := fold_mem addR InM OccR h3 g.Rules [] e
  unfold keysOf mapOf Occ
  exact this.trans (by simp [InM])
theorem keys_nodup (g : Grammar) : (keysOf g).Nodup := by
  have h1 : ∀ r c es s, (List.map Prod.fst es).Nodup → (List.map Prod.fst (addS r c es s)).Nodup := fun r c es s h => by
    unfold addS
    split
    · exact mput_nodup h
    · exact h
  unfold keysOf mapOf
  exact fold_inv addR (fun es => (List.map Prod.fst es).Nodup) (fun es r h => fold_inv (addC r) (fun es => (List.map Prod.fst es).Nodup) (fun es c h => fold_inv (addS r c) (fun es => (List.map Prod.fst es).Nodup) (h1 r c) _ _ h) _ _ h) _ _ (by simp)
theorem map_len (g : Grammar) (h : Bd g) : (mapOf g).length ≤ 131072 := by
  have h1 : ∀ r c es s, (addS r c es s).length ≤ es.length + 1 := fun r c es s => by
    unfold addS
    split
    · exact mput_len
    · omega
  have h2 : ∀ r, RuleBd r → ∀ es, ∀ c ∈ r.Conj, (addC r es c).length ≤ es.length + 64 := fun r hr es c hc => by
    have := fold_len (addS r c) List.length 1 c.Seq es (fun s a _ => h1 r c s a)
    have := hr.2 c hc
    unfold addC; omega
  have h3 : ∀ es, ∀ r ∈ g.Rules, (addR es r).length ≤ es.length + 512 := fun es r hr => by
    have hb := h.2 r hr
    have := fold_len (addC r) List.length 64 r.Conj es (fun s a ha => h2 r hb s a ha)
    have := hb.1
    unfold addR; omega
  have := fold_len addR List.length 512 g.Rules [] h3
  have := h.1
  unfold mapOf; simp at *; omega
theorem edges_perm (g : Grammar) : (edgesOf g).Perm (keysOf g) := List.mergeSort_perm _ _
theorem mem_edges (g : Grammar) (e : Edge) : e ∈ edgesOf g ↔ Occ g e := by rw [(edges_perm g).mem_iff, keys_occ]
theorem edges_nodup (g : Grammar) : (edgesOf g).Nodup := (edges_perm g).nodup_iff.2 (keys_nodup g)
theorem edges_len (g : Grammar) (h : Bd g) : (edgesOf g).length ≤ 131072 := by
  rw [(edges_perm g).length_eq]; unfold keysOf; rw [List.length_map]; exact map_len g h
/-- What deps.Edges answers. -/
theorem Edges_spec (K : Nat) (hK : 200000 ≤ K) (g : Grammar) : ∃ b, gram_May K g = some b ∧ (b = true → Bd g) ∧ deps_Edges K g = some (if b = true then (edgesOf g, 0) else ([], 600)) := by
  obtain ⟨b, hb, hbd⟩ := May_some K (by omega) g
  refine ⟨b, hb, hbd, ?_⟩
  unfold deps_Edges
  rw [hb, Option.bind_some]
  cases b with
  | false => rfl
  | true =>
    have h := hbd rfl
    have hl := map_len g h
    rw [if_neg (by decide), edges_l0 K hK g h, Option.bind_some]
    simp only
    rw [if_pos (by omega), if_pos (by omega)]
    rfl
end Go.Proofs.Ytnkpelhaablheaa
