/-
  Chapter 9: awake; laws EmptysHold, EmptysNegs. Own work; no claim stands here.
-/
import Derived.Test.YtflbjhfklhidjaaPNul
namespace Go.Proofs.Ytflbjhfklhidjaa
open S Go.Sort
set_option linter.unusedVariables false
set_option linter.unusedSimpArgs false
set_option maxRecDepth 100000

theorem SameBools_spec (K : Nat) (a b : List Bool) (h : a.length < K) (hl : a.length ≤ 140737488351232) : templelaw0_SameBools K a b = some (decide (a = b)) := by
  unfold templelaw0_SameBools
  by_cases hlen : a.length = b.length
  · rw [if_neg (fun h => h (by rw [hlen]))]
    rcases ask_all (p := fun i => rd a (i : Int) = rd b (i : Int)) (L := templelaw0_SameBools.l0 K a b) h (fun m i hi => by
      simp only [templelaw0_SameBools.l0]
      rw [if_pos (by omega), if_pos (by omega), if_pos (by omega), wr (a := (i : Int) + 1) (by omega) (by omega)]
      by_cases e : rd a (i : Int) = rd b (i : Int)
      · rw [if_neg (fun h => h e)]; exact .inl ⟨e, rfl⟩
      · rw [if_pos e]; exact .inr ⟨e, rfl⟩) (fun m => by simp only [templelaw0_SameBools.l0]; rw [if_neg (by omega)]) with ⟨h1, h2⟩ | ⟨h1, h2⟩
    · rw [h1]
      have : a = b := rdi_ext (n := a.length) rfl hlen.symm fun i x y => by have := h2 i.toNat (by omega); rwa [Int.toNat_of_nonneg x] at this
      rw [decide_eq_true this]; rfl
    · rw [h1]
      have : a ≠ b := fun e => h2 fun i _ => by rw [e]
      rw [decide_eq_false this]; rfl
  · rw [if_pos (fun e => hlen (by omega)), decide_eq_false (fun e => hlen (by rw [e]))]

/-! ## awake -/
def gr1 : Grammar := (⟨(0 : Int), ([(⟨#[83]⟩ : ByteArray), (⟨#[65]⟩ : ByteArray)] : List ByteArray), ([(⟨(0 : Int), ([(⟨true, ([(⟨1, (0 : Int), (0 : Int)⟩ : Symbol)] : List Symbol)⟩ : Conjunct)] : List Conjunct)⟩ : Rule), (⟨1, ([(⟨false, ([(⟨(-1), 5, 6⟩ : Symbol)] : List Symbol)⟩ : Conjunct)] : List Conjunct)⟩ : Rule)] : List Rule)⟩ : Grammar)
def gr0 : Grammar := (⟨(0 : Int), ([] : (List ByteArray)), ([] : (List Rule))⟩ : Grammar)
theorem may1 (K : Nat) : gram_May (K + 1000) gr1 = some true := by kernel_rfl
theorem may0 (K : Nat) : gram_May (K + 1000) gr0 = some false := by kernel_rfl
theorem keys1 : keysOf gr1 = [(⟨0, 1, true⟩ : Edge)] := by kernel_rfl
theorem edges1 : edgesOf gr1 = [(⟨0, 1, true⟩ : Edge)] := edgesOf_is gr1 (by simp) fun e => by rw [← keys1]; exact keys_occ gr1 e
theorem cycle1 (K : Nat) : strata_cycle (K + 1000) 2 [(⟨0, 1, true⟩ : Edge)] = some [] := by kernel_rfl
theorem loop1 (K : Nat) : strata_Strata.l0 (K + 1000) ([(⟨0, 1, true⟩ : Edge)], 0) (K + 1000) ([0, 0], true) = some ([1, 0], false) := by kernel_rfl
theorem nloop1 (K : Nat) : nulls_Nulls.l0 (K + 1000) gr1 ([1, 0], [], 0) (K + 1000) ([false, false], 0) = some ([true, false], 2) := by kernel_rfl
theorem str1 (K : Nat) (hK : 200000 ≤ K) : strata_Strata K gr1 = some ([1, 0], [], 0) := by
  obtain ⟨K', rfl⟩ : ∃ q, K = q + 1000 := ⟨K - 1000, by omega⟩
  obtain ⟨b, hb, _, he⟩ := Edges_spec (K' + 1000) hK gr1
  rw [may1] at hb
  cases hb
  unfold strata_Strata
  rw [he, Option.bind_some, if_pos rfl, if_neg (fun h => h rfl), edges1]
  have h1 : strata_cycle (K' + 1000) (gr1.Names.length : Int) [(⟨0, 1, true⟩ : Edge)] = some [] := cycle1 K'
  have h2 : strata_Strata.l0 (K' + 1000) ([(⟨0, 1, true⟩ : Edge)], 0) (K' + 1000) (List.replicate (gr1.Names.length : Int).toNat 0, true) = some ([1, 0], false) := loop1 K'
  simp only
  rw [h1, Option.bind_some, if_neg (fun h => h rfl), if_pos (by decide), h2]
  rfl
theorem str0 (K : Nat) (hK : 200000 ≤ K) : strata_Strata K gr0 = some ([], [], 800) := by
  obtain ⟨K', rfl⟩ : ∃ q, K = q + 1000 := ⟨K - 1000, by omega⟩
  obtain ⟨b, hb, _, he⟩ := Edges_spec (K' + 1000) hK gr0
  rw [may0] at hb
  cases hb
  unfold strata_Strata
  rw [he, Option.bind_some, if_neg Bool.false_ne_true, if_pos (by decide)]
theorem nul1 (K : Nat) (hK : 200000 ≤ K) : nulls_Nulls K gr1 = some ([true, false], 0) := by
  have h1 := str1 K hK
  obtain ⟨K', rfl⟩ : ∃ q, K = q + 1000 := ⟨K - 1000, by omega⟩
  have h2 : nulls_Nulls.l0 (K' + 1000) gr1 ([1, 0], [], 0) (K' + 1000) (List.replicate (gr1.Names.length : Int).toNat false, 0) = some ([true, false], 2) := nloop1 K'
  unfold nulls_Nulls
  rw [h1, Option.bind_some, if_neg (fun h => h rfl), if_pos (by decide), h2]
  rfl
theorem nul0 (K : Nat) (hK : 200000 ≤ K) : nulls_Nulls K gr0 = some ([], 900) := by
  unfold nulls_Nulls
  rw [str0 K hK, Option.bind_some, if_pos (show (800 : Int) ≠ 0 by decide)]
theorem awake9 (K : Nat) (hK : 200000 ≤ K) : templelaw9_awake K = some true := by
  have h1 := nul1 K hK
  have h0 := nul0 K hK
  unfold gr1 at h1
  unfold gr0 at h0
  unfold templelaw9_awake
  rw [h1, Option.bind_some, h0, Option.bind_some]
  simp only [templelaw0_Num, Option.bind_some]
  rw [SameBools_spec K _ _ (by show 2 < K; omega) (by show 2 ≤ _; omega), Option.bind_some, decide_eq_true rfl, if_pos rfl]
  rfl

end Go.Proofs.Ytflbjhfklhidjaa
