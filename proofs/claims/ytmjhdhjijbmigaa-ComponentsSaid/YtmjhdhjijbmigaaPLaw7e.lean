/-
  The law Components of chapter 7, in plain Lean, the second text. Own work; no claim stands here.
-/
import Derived.Test.YtmjhdhjijbmigaaPLaw7d
namespace Go.Proofs.Ytmjhdhjijbmigaa
open S
set_option linter.unusedVariables false
set_option linter.unusedSimpArgs false
set_option maxRecDepth 100000

theorem awake7 {K : Nat} (hK : 64 < K) : templelaw7_awake K = some true := by
  unfold templelaw7_awake
  have a1 : comps_Comps 100 4 [⟨1, 2, false⟩, ⟨2, 1, false⟩, ⟨0, 1, false⟩] = some ([0, 1, 1, 3], 0) := by decide +kernel
  have a2 : comps_Comps 100 1 [⟨1, 2, false⟩, ⟨2, 1, false⟩, ⟨0, 1, false⟩] = some ([], 700) := by decide +kernel
  have a3 : comps_Reaches 100 4 [⟨1, 2, false⟩, ⟨2, 1, false⟩, ⟨0, 1, false⟩] 0 2 = some true := by decide +kernel
  have a4 : comps_Reaches 100 4 [⟨1, 2, false⟩, ⟨2, 1, false⟩, ⟨0, 1, false⟩] 2 0 = some false := by decide +kernel
  have a5 : comps_Reaches 100 4 [⟨1, 2, false⟩, ⟨2, 1, false⟩, ⟨0, 1, false⟩] 3 3 = some true := by decide +kernel
  have a6 : comps_Reaches 100 4 [⟨1, 2, false⟩, ⟨2, 1, false⟩, ⟨0, 1, false⟩] 4 4 = some false := by decide +kernel
  have l : ([⟨1, 2, false⟩, ⟨2, 1, false⟩, ⟨0, 1, false⟩] : List Edge).length = 3 := rfl
  rw [Comps_fuel 100 (by decide) (by decide) a1 (by decide) hK (by rw [l]; omega), Comps_fuel 100 (by decide) (by decide) a2 (by decide) hK (by rw [l]; omega), Reaches_fuel 100 (by decide) (by decide) a3 (by decide) hK (by rw [l]; omega), Reaches_fuel 100 (by decide) (by decide) a4 (by decide) hK (by rw [l]; omega), Reaches_fuel 100 (by decide) (by decide) a5 (by decide) hK (by rw [l]; omega), Reaches_fuel 100 (by decide) (by decide) a6 (by decide) hK (by rw [l]; omega)]
  simp only [Option.bind_some]
  rw [SameInts_spec _ _ (by decide) K (by simp; omega)]
  simp [templelaw0_Num]

theorem same_loop {T : Type} [Inhabited T] [DecidableEq T] (a : List T) (L : Nat → Int → Option (Int ⊕ Bool)) (hL : ∀ m i, L (m + 1) i = if i < (a.length : Int) then if 0 ≤ i then if i < (a.length : Int) then if (rd a i) ≠ (rd a i) then some (.inr false) else L m (IntKind.wrap .i64 (i + 1)) else none else none else some (.inl i)) (hl : a.length < 9223372036854775807) (K : Nat) (hK : a.length < K) : ∃ i, L K 0 = some (.inl i) := by
  obtain ⟨r, hr, hq⟩ := rounds (L := L) (fun s => ∃ t : Nat, s = t ∧ t ≤ a.length) (fun s => a.length - s.toNat) (fun r => ∃ i, r = .inl i) (fun s m hI => by
    obtain ⟨t, rfl, ht⟩ := hI
    rw [hL]
    by_cases hlt : (t : Int) < a.length
    · rw [if_pos hlt, if_pos (Int.natCast_nonneg t), if_pos hlt, if_neg (by simp), wr (a := (t : Int) + 1) (by omega) (by omega)]
      exact .inr ⟨(t : Int) + 1, ⟨t + 1, by simp, by omega⟩, by omega, rfl⟩
    · rw [if_neg hlt]; exact .inl ⟨_, rfl, _, rfl⟩) K 0 ⟨0, rfl, Nat.zero_le _⟩ (by simpa using hK)
  obtain ⟨i, rfl⟩ := hq
  exact ⟨i, hr⟩
theorem SameE (a : List Edge) (hl : a.length < 9223372036854775807) (K : Nat) (hK : a.length < K) : templelaw0_SameEdges K a a = some true := by
  unfold templelaw0_SameEdges
  obtain ⟨i, h⟩ := same_loop a (templelaw0_SameEdges.l0 K a a) (fun m i => rfl) hl K hK
  rw [if_neg (by simp), h]; rfl
theorem lnt_app {T : Type} (a m : List T) : lnt (a ++ m, (a.length : Int)) = a := by unfold lnt; simp
theorem rd_app0 {T : Type} [Inhabited T] (a : List T) (x y : T) : rd (sl (a ++ [x, y]) 0 ((a.length : Int) + 2)) (a.length : Int) = x ∧ rd (sl (a ++ [x, y]) 0 ((a.length : Int) + 2)) ((a.length : Int) + 1) = y ∧ (sl (a ++ [x, y]) 0 ((a.length : Int) + 2)).length = a.length + 2 := by
  have e : sl (a ++ [x, y]) 0 ((a.length : Int) + 2) = a ++ [x, y] := by
    unfold sl
    rw [show ((a.length : Int) + 2).toNat = a.length + 2 by omega, List.take_of_length_le (by simp)]
    simp
  rw [e]
  refine ⟨?_, ?_, by simp⟩
  · simp [rd, List.getD_eq_getElem?_getD]
  · rw [show ((a.length : Int) + 1) = ((a.length + 1 : Nat) : Int) by simp]
    simp [rd, List.getD_eq_getElem?_getD]
theorem KeptE (a : List Edge) (hl : a.length < 9223372036854775800) (K : Nat) (hK : a.length < K) : templelaw0_KeptEdges K (a ++ ([(⟨77777, (0 : Int), false⟩ : Edge), (⟨77777, (0 : Int), false⟩ : Edge)] : List Edge), (a.length : Int)) a = some true := by
  unfold templelaw0_KeptEdges
  obtain ⟨h1, h2, h3⟩ := rd_app0 a (⟨77777, 0, false⟩ : Edge) (⟨77777, 0, false⟩ : Edge)
  simp only [lnt_app, SameE a (by omega) K hK, Option.bind_some]
  have w1 : IntKind.wrap .i64 ((a.length : Int) + 2) = (a.length : Int) + 2 := wr (by omega) (by omega)
  have w2 : IntKind.wrap .i64 ((a.length : Int) + 1) = (a.length : Int) + 1 := wr (by omega) (by omega)
  rw [w1, w2]
  rw [if_pos (by omega), if_pos (by simp), if_pos trivial, if_pos (by omega), if_pos h1, if_pos (by omega), if_pos (by omega)]
  simp [h2]

theorem Components_true (names : Int) (es : List Edge) (a b : Int) (h1 : es.length * 24 ≤ 140737488351232) : ∃ K, templelaw7_Components K names es a b = some true := by
  refine ⟨100 + es.length, ?_⟩
  generalize hK : 100 + es.length = K
  unfold templelaw7_Components
  have L1 : templelaw0_LendEdges K es = some (es ++ ([(⟨77777, (0 : Int), false⟩ : Edge), (⟨77777, (0 : Int), false⟩ : Edge)] : List Edge), (es.length : Int)) := by
    unfold templelaw0_LendEdges templelaw0_CopyEdges
    rw [if_pos (by simp; omega)]
    simp only [Option.bind_some, List.nil_append]
    rw [if_pos (by simp; omega), if_pos (by simp; omega)]
  obtain ⟨r, e1, c1⟩ := Comps_spec names es (by omega) K (by omega) (by omega)
  obtain ⟨s, e2, c2⟩ := RComps_spec names es (by omega) K (by omega) (by omega)
  obtain ⟨u, e3, c3⟩ := Reaches_spec names es a b (by omega) K (by omega) (by omega)
  obtain ⟨v, e4, c4⟩ := RReaches_spec names es a b (by omega) K (by omega) (by omega)
  have hrs : r = s := c1.uniq c2
  subst hrs
  have huv : u = v := by
    have := c3.trans c4.symm
    cases u <;> cases v <;> simp_all
  subst huv
  have hlen : r.1.length < K := by
    rcases c1 with ⟨_, rfl⟩ | ⟨hm, _, h, _⟩
    · simp; omega
    · have := hm.2.1; omega
  rw [L1]
  simp only [Option.bind_some, lnt_app, e1, e2, e3, e4, SameInts_spec r.1 r.1 (by omega) K hlen, KeptE es (by omega) K (by omega), awake7 (K := K) (by omega), templelaw0_Num]
  simp
end Go.Proofs.Ytmjhdhjijbmigaa
