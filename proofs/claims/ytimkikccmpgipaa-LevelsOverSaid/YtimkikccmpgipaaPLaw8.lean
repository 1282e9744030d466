/-
  Chapter 8: what every program answers that is one (awake); law Levels. Own work; no claim stands here.
-/
import Derived.Test.YtimkikccmpgipaaPH
namespace Go.Proofs.Ytimkikccmpgipaa
open S Go.Sort
set_option linter.unusedVariables false
set_option linter.unusedSimpArgs false
set_option maxRecDepth 100000

theorem SameInts_spec (K : Nat) (a b : List Int) (h : a.length < K) (hl : a.length ≤ 140737488351232) : templelaw0_SameInts K a b = some (decide (a = b)) := by
  unfold templelaw0_SameInts
  by_cases hlen : a.length = b.length
  · rw [if_neg (fun h => h (by rw [hlen]))]
    rcases ask_all (p := fun i => rd a (i : Int) = rd b (i : Int)) (L := templelaw0_SameInts.l0 K a b) h (fun m i hi => by
      simp only [templelaw0_SameInts.l0]
      rw [if_pos (by omega), if_pos (by omega), if_pos (by omega), wr (a := (i : Int) + 1) (by omega) (by omega)]
      by_cases e : rd a (i : Int) = rd b (i : Int)
      · rw [if_neg (fun h => h e)]; exact .inl ⟨e, rfl⟩
      · rw [if_pos e]; exact .inr ⟨e, rfl⟩) (fun m => by simp only [templelaw0_SameInts.l0]; rw [if_neg (by omega)]) with ⟨h1, h2⟩ | ⟨h1, h2⟩
    · rw [h1]
      have : a = b := rdi_ext (n := a.length) rfl hlen.symm fun i x y => by have := h2 i.toNat (by omega); rwa [Int.toNat_of_nonneg x] at this
      rw [decide_eq_true this]; rfl
    · rw [h1]
      have : a ≠ b := fun e => h2 fun i _ => by rw [e]
      rw [decide_eq_false this]; rfl
  · rw [if_pos (fun e => hlen (by omega)), decide_eq_false (fun e => hlen (by rw [e]))]

/-! ## awake -/
def gr1 : Grammar := (⟨(0 : Int), ([(⟨#[83]⟩ : ByteArray), (⟨#[65]⟩ : ByteArray)] : List ByteArray), ([(⟨(0 : Int), ([(⟨true, ([(⟨1, (0 : Int), (0 : Int)⟩ : Symbol)] : List Symbol)⟩ : Conjunct)] : List Conjunct)⟩ : Rule), (⟨1, ([(⟨false, ([] : List Symbol)⟩ : Conjunct)] : List Conjunct)⟩ : Rule)] : List Rule)⟩ : Grammar)
def gr2 : Grammar := (⟨(0 : Int), ([(⟨#[83]⟩ : ByteArray), (⟨#[65]⟩ : ByteArray)] : List ByteArray), ([(⟨(0 : Int), ([(⟨true, ([(⟨1, (0 : Int), (0 : Int)⟩ : Symbol)] : List Symbol)⟩ : Conjunct)] : List Conjunct)⟩ : Rule), (⟨1, ([(⟨false, ([(⟨0, (0 : Int), (0 : Int)⟩ : Symbol)] : List Symbol)⟩ : Conjunct)] : List Conjunct)⟩ : Rule)] : List Rule)⟩ : Grammar)
def gr0 : Grammar := (⟨(0 : Int), ([] : (List ByteArray)), ([] : (List Rule))⟩ : Grammar)
theorem mayA (K : Nat) : gram_May (K + 1000) gr1 = some true := by kernel_rfl
theorem mayB (K : Nat) : gram_May (K + 1000) gr2 = some true := by kernel_rfl
theorem may0 (K : Nat) : gram_May (K + 1000) gr0 = some false := by kernel_rfl
theorem keysA : keysOf gr1 = [(⟨0, 1, true⟩ : Edge)] := by kernel_rfl
theorem keysB : keysOf gr2 = [(⟨0, 1, true⟩ : Edge), (⟨1, 0, false⟩ : Edge)] := by kernel_rfl
theorem edgesA : edgesOf gr1 = [(⟨0, 1, true⟩ : Edge)] := edgesOf_is gr1 (by simp) fun e => by rw [← keysA]; exact keys_occ gr1 e
theorem edgesB : edgesOf gr2 = [(⟨0, 1, true⟩ : Edge), (⟨1, 0, false⟩ : Edge)] := edgesOf_is gr2 (by simp [eLt]) fun e => by rw [← keysB]; exact keys_occ gr2 e
theorem cycleA (K : Nat) : strata_cycle (K + 1000) 2 [(⟨0, 1, true⟩ : Edge)] = some [] := by kernel_rfl
theorem cycleB (K : Nat) : strata_cycle (K + 1000) 2 [(⟨0, 1, true⟩ : Edge), (⟨1, 0, false⟩ : Edge)] = some [0, 1] := by kernel_rfl
theorem loopA (K : Nat) : strata_Strata.l0 (K + 1000) ([(⟨0, 1, true⟩ : Edge)], 0) (K + 1000) ([0, 0], true) = some ([1, 0], false) := by kernel_rfl
theorem strA (K : Nat) (hK : 200000 ≤ K) : strata_Strata K gr1 = some ([1, 0], [], 0) := by
  obtain ⟨K', rfl⟩ : ∃ q, K = q + 1000 := ⟨K - 1000, by omega⟩
  obtain ⟨b, hb, _, he⟩ := Edges_spec (K' + 1000) hK gr1
  rw [mayA] at hb
  cases hb
  unfold strata_Strata
  rw [he, Option.bind_some, if_pos rfl, if_neg (fun h => h rfl), edgesA]
  have h1 : strata_cycle (K' + 1000) (gr1.Names.length : Int) [(⟨0, 1, true⟩ : Edge)] = some [] := cycleA K'
  have h2 : strata_Strata.l0 (K' + 1000) ([(⟨0, 1, true⟩ : Edge)], 0) (K' + 1000) (List.replicate (gr1.Names.length : Int).toNat 0, true) = some ([1, 0], false) := loopA K'
  simp only
  rw [h1, Option.bind_some, if_neg (fun h => h rfl), if_pos (by decide), h2]
  rfl
theorem strB (K : Nat) (hK : 200000 ≤ K) : strata_Strata K gr2 = some ([], [0, 1], 801) := by
  obtain ⟨K', rfl⟩ : ∃ q, K = q + 1000 := ⟨K - 1000, by omega⟩
  obtain ⟨b, hb, _, he⟩ := Edges_spec (K' + 1000) hK gr2
  rw [mayB] at hb
  cases hb
  unfold strata_Strata
  rw [he, Option.bind_some, if_pos rfl, if_neg (fun h => h rfl), edgesB]
  have h1 : strata_cycle (K' + 1000) (gr2.Names.length : Int) [(⟨0, 1, true⟩ : Edge), (⟨1, 0, false⟩ : Edge)] = some [0, 1] := cycleB K'
  simp only
  rw [h1, Option.bind_some, if_pos (by decide)]
theorem str0 (K : Nat) (hK : 200000 ≤ K) : strata_Strata K gr0 = some ([], [], 800) := by
  obtain ⟨K', rfl⟩ : ∃ q, K = q + 1000 := ⟨K - 1000, by omega⟩
  obtain ⟨b, hb, _, he⟩ := Edges_spec (K' + 1000) hK gr0
  rw [may0] at hb
  cases hb
  unfold strata_Strata
  rw [he, Option.bind_some, if_neg Bool.false_ne_true, if_pos (by decide)]
theorem awake_eq (K : Nat) : templelaw8_awake K = (strata_Strata K gr1).bind fun r_8 => (strata_Strata K gr2).bind fun r_20 => (strata_Strata K gr0).bind fun r_24 => (templelaw0_SameInts K r_8.1 ([1, 0] : List Int)).bind fun r_28 => if r_28 = true then if (r_8.2.1.length : Int) = 0 then (templelaw0_Num K r_8.2.2).bind fun r_32 => if r_32 = 0 then (templelaw0_SameInts K r_20.2.1 ([0, 1] : List Int)).bind fun r_35 => if r_35 = true then (templelaw0_Num K r_20.2.2).bind fun r_38 => if r_38 = 801 then (templelaw0_Num K r_24.2.2).bind fun r_41 => some (decide (r_41 = 800)) else some false else some false else some false else some false else some false := rfl
theorem awake8 (K : Nat) (hK : 200000 ≤ K) : templelaw8_awake K = some true := by
  rw [awake_eq, strA K hK, Option.bind_some, strB K hK, Option.bind_some, str0 K hK, Option.bind_some]
  simp only
  rw [SameInts_spec K _ _ (by show 2 < K; omega) (by show 2 ≤ _; omega), Option.bind_some, decide_eq_true rfl, if_pos rfl, if_pos (by decide)]
  simp only [templelaw0_Num, Option.bind_some]
  rw [if_pos trivial, SameInts_spec K _ _ (by show 2 < K; omega) (by show 2 ≤ _; omega), Option.bind_some, decide_eq_true rfl, if_pos rfl, if_pos trivial, decide_eq_true trivial]

/-! ## Levels -/
theorem IsWay.len {es : List Edge} {fin : Int} {n : Nat} {f : List Int} (hf : Fit n es) (hd : Dist n es fin f) : ∀ {w : List Int} {a : Int}, 0 ≤ a → a < n → 0 ≤ rd f a → IsWay es fin f w a → (w.length : Int) = rd f a
  | [], a, _, _, _, h => by
    have : a = fin := h
    subst this
    have := hd.e0
    simp only [List.length_nil]; omega
  | x :: w, a, a0, a1, h0, ⟨_, hne, y, hy, hw⟩ => by
    obtain ⟨⟨e, he, hn, rfl⟩, _⟩ := hy
    obtain ⟨_, c, c'⟩ := hf e he
    obtain ⟨e1, he1, _, g1, g2⟩ := hd.s2 a a0 a1 hne h0
    have h3 := hn.2
    have := IsWay.len hf hd c c' (by omega) hw
    rw [List.length_cons]; omega
theorem StrOut.lens {g : Grammar} {r : List Int × List Int × Int} (h : StrOut g r) : r.1.length ≤ 64 ∧ r.2.1.length ≤ 65 := by
  rcases h with ⟨_, rfl⟩ | ⟨hm, ⟨c, hc, rfl⟩ | ⟨_, xs, hx, rfl⟩⟩
  · exact ⟨Nat.zero_le _, Nat.zero_le _⟩
  · obtain ⟨i, hi, h1, _, f, w, hd, hw, rfl⟩ := hc
    have hf := fit_edges hm
    obtain ⟨⟨f0, f1⟩, f2, f3⟩ := hf _ (rd_mem (xs := edgesOf g) (Int.natCast_nonneg i) (by omega))
    have := hw.len hf hd f2 f3 (hd.of_reach h1.2 (by rw [hd.e0]; omega))
    have := hd.hi _ f2 f3
    exact ⟨Nat.zero_le _, by simp only [List.length_cons]; omega⟩
  · have := hm.1.2.1
    have := hx.1.1
    exact ⟨by simp only; omega, Nat.zero_le _⟩
theorem Levels_true (K : Nat) (hK : KW ≤ K) (g : Grammar) (hg : SzG g) : templelaw8_Levels K g = some true := by
  have hK' : 140737488355328 ≤ K := hK
  obtain ⟨r, h1, h2, h3⟩ := Strata_both K (by omega) g
  obtain ⟨l1, l2⟩ := h3.lens
  have eg : (⟨g.Start, g.Names, g.Rules⟩ : Grammar) = g := rfl
  unfold templelaw8_Levels
  rw [Copy_spec K hK g hg, Option.bind_some, eg, h1, Option.bind_some, h2, Option.bind_some]
  rw [SameInts_spec K _ _ (by omega) (by omega), Option.bind_some, decide_eq_true rfl, if_pos rfl, SameInts_spec K _ _ (by omega) (by omega), Option.bind_some, decide_eq_true rfl, if_pos rfl]
  simp only [templelaw0_Num, Option.bind_some]
  rw [if_pos trivial, SameGrammar_refl K hK g hg, Option.bind_some, if_pos rfl, awake8 K (by omega)]
  rfl
theorem Levels_holds (g : Grammar) (w : wfGrammar g) : ∃ K, templelaw8_Levels K g = some true := ⟨KW, Levels_true KW (Nat.le_refl _) g (SzG_wf w)⟩
end Go.Proofs.Ytimkikccmpgipaa
