/-
  deps.Edges in plain Lean: the edges that occur, each once, in order. Own work; no claim stands here.
-/
import Derived.Test.YtnkpelhaablheaaPMay
import Derived.Test.YtnkpelhaablheaaPRow
namespace Go.Proofs.Ytnkpelhaablheaa
open S Go.Sort
set_option linter.unusedVariables false
set_option linter.unusedSimpArgs false
set_option maxRecDepth 100000

/-- A loop over a list that leaves nowhere: a fold. -/
theorem foldLoop {τ α : Type} [Inhabited α] (xs : List α) (L : Nat → τ × Int → Option (τ × Int)) (f : τ → α → τ) (step : ∀ m s i, i < xs.length → L (m + 1) (s, (i : Int)) = L m (f s (rd xs (i : Int)), (i : Int) + 1))
    (stop : ∀ m s, L (m + 1) (s, (xs.length : Int)) = some (s, (xs.length : Int))) (m : Nat) (hm : xs.length < m) (s : τ) : L m (s, 0) = some (xs.foldl f s, (xs.length : Int)) := by
  have key : ∀ k i s m, i + k = xs.length → k < m → L m (s, (i : Int)) = some ((xs.drop i).foldl f s, (xs.length : Int)) := by
    intro k
    induction k with
    | zero =>
      intro i s m hi hm
      obtain ⟨m, rfl⟩ : ∃ q, m = q + 1 := ⟨m - 1, by omega⟩
      have : i = xs.length := by omega
      subst this
      rw [stop, List.drop_length]; rfl
    | succ k ih =>
      intro i s m hi hm
      obtain ⟨m, rfl⟩ : ∃ q, m = q + 1 := ⟨m - 1, by omega⟩
      have hil : i < xs.length := by omega
      rw [step m s i hil, List.drop_eq_getElem_cons hil, List.foldl_cons]
      have e : rd xs (i : Int) = xs[i] := by rw [rd_nat, List.getD_eq_getElem?_getD, List.getElem?_eq_getElem hil]; rfl
      rw [e]
      simpa using ih (i + 1) (f s xs[i]) m (by omega) (by omega)
  simpa using key xs.length 0 s m (by omega) hm

def eOf (r : Rule) (c : Conjunct) (s : Symbol) : Edge := ⟨r.Head, s.Name, c.Neg⟩
def addS (r : Rule) (c : Conjunct) (es : List (Edge × Bool)) (s : Symbol) : List (Edge × Bool) := if 0 ≤ s.Name then mput es (eOf r c s) true else es
def addC (r : Rule) (es : List (Edge × Bool)) (c : Conjunct) : List (Edge × Bool) := c.Seq.foldl (addS r c) es
def addR (es : List (Edge × Bool)) (r : Rule) : List (Edge × Bool) := r.Conj.foldl (addC r) es
def mapOf (g : Grammar) : List (Edge × Bool) := g.Rules.foldl addR []
def keysOf (g : Grammar) : List Edge := (mapOf g).map (·.1)
def edgesOf (g : Grammar) : List Edge := sortL rowC (keysOf g)

theorem edges_l2 (K : Nat) (hK : 200000 ≤ K) (g : Grammar) (i j : Int) (h : (rd (rd g.Rules i).Conj j).Seq.length ≤ 64) (es : List (Edge × Bool)) :
    deps_Edges.l2 K g i j K (es, 0) = some ((rd (rd g.Rules i).Conj j).Seq.foldl (addS (rd g.Rules i) (rd (rd g.Rules i).Conj j)) es, ((rd (rd g.Rules i).Conj j).Seq.length : Int)) :=
  foldLoop _ (deps_Edges.l2 K g i j) _ (fun m s k hk => by
    simp only [deps_Edges.l2, addS, eOf]
    rw [if_pos (by omega), if_pos (Int.natCast_nonneg k), wr (a := (k : Int) + 1) (by omega) (by omega)]
    split <;> rfl) (fun m s => by simp only [deps_Edges.l2]; rw [if_neg (by omega)]) K (by omega) es
theorem edges_l1 (K : Nat) (hK : 200000 ≤ K) (g : Grammar) (i : Int) (h : RuleBd (rd g.Rules i)) (es : List (Edge × Bool)) :
    deps_Edges.l1 K g i K (es, 0) = some ((rd g.Rules i).Conj.foldl (addC (rd g.Rules i)) es, ((rd g.Rules i).Conj.length : Int)) := by
  have h8 := h.1
  exact foldLoop _ (deps_Edges.l1 K g i) _ (fun m s k hk => by
    have hc : (rd (rd g.Rules i).Conj (k : Int)).Seq.length ≤ 64 := h.2 _ (rd_mem (Int.natCast_nonneg k) (by omega))
    simp only [deps_Edges.l1]
    rw [if_pos (by omega), if_pos (Int.natCast_nonneg k), edges_l2 K hK g i k hc, Option.bind_some, wr (a := (k : Int) + 1) (by omega) (by omega)]
    rfl) (fun m s => by simp only [deps_Edges.l1]; rw [if_neg (by omega)]) K (by omega) es
theorem edges_l0 (K : Nat) (hK : 200000 ≤ K) (g : Grammar) (h : Bd g) : deps_Edges.l0 K g K ([], 0) = some (mapOf g, (g.Rules.length : Int)) := by
  have h256 := h.1
  exact foldLoop _ (deps_Edges.l0 K g) _ (fun m s k hk => by
    have hr : RuleBd (rd g.Rules (k : Int)) := h.2 _ (rd_mem (Int.natCast_nonneg k) (by omega))
    simp only [deps_Edges.l0]
    rw [if_pos (by omega), if_pos (Int.natCast_nonneg k), edges_l1 K hK g k hr, Option.bind_some, wr (a := (k : Int) + 1) (by omega) (by omega)]
    rfl) (fun m s => by simp only [deps_Edges.l0]; rw [if_neg (by omega)]) K (by omega) []
end Go.Proofs.Ytnkpelhaablheaa
