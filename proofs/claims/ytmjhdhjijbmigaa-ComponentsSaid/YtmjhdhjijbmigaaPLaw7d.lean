/-
  The law Components of chapter 7, in plain Lean. Own work; no claim stands here.
-/
import Derived.Test.YtmjhdhjijbmigaaPRef7
namespace Go.Proofs.Ytmjhdhjijbmigaa
open S
set_option linter.unusedVariables false
set_option linter.unusedSimpArgs false
set_option maxRecDepth 100000

theorem RReaches_spec (names : Int) (es : List Edge) (a b : Int) (hl : es.length < 9223372036854775807) (K : Nat) (hK : 64 < K) (hK' : es.length < K) : ∃ r, templeref6_Reaches K names es a b = some r ∧ (r = true ↔ May names es ∧ (0 ≤ a ∧ a < names) ∧ (0 ≤ b ∧ b < names) ∧ Reach es a b) := by
  obtain ⟨m, hm, hm'⟩ := edgesMay_spec names es hl K hK'
  unfold templeref6_Reaches
  rw [hm]
  simp only [Option.bind_some]
  by_cases hmay : May names es
  · have := hm'.2 hmay
    subst this
    have hmay' := hmay
    obtain ⟨h0, h1, hf⟩ := hmay'
    obtain ⟨n, rfl⟩ := Int.eq_ofNat_of_zero_le h0
    rw [if_neg (by decide)]
    by_cases a1 : a < 0
    · exact ⟨false, by rw [if_pos a1], by simp only [Bool.false_eq_true, false_iff]; rintro ⟨_, _, _⟩; omega⟩
    by_cases a2 : (n : Int) ≤ a
    · exact ⟨false, by rw [if_neg a1, if_pos a2], by simp only [Bool.false_eq_true, false_iff]; rintro ⟨_, _, _⟩; omega⟩
    by_cases a3 : b < 0
    · exact ⟨false, by rw [if_neg a1, if_neg a2, if_pos a3], by simp only [Bool.false_eq_true, false_iff]; rintro ⟨_, _, _, _⟩; omega⟩
    by_cases a4 : (n : Int) ≤ b
    · exact ⟨false, by rw [if_neg a1, if_neg a2, if_neg a3, if_pos a4], by simp only [Bool.false_eq_true, false_iff]; rintro ⟨_, _, _, _⟩; omega⟩
    obtain ⟨i, rfl⟩ := Int.eq_ofNat_of_zero_le (show 0 ≤ a by omega)
    obtain ⟨j, rfl⟩ := Int.eq_ofNat_of_zero_le (show 0 ≤ b by omega)
    obtain ⟨xs, h2, h3, h4⟩ := reached_spec n (by omega) es hl hf i (by omega) K hK hK'
    rw [if_neg a1, if_neg a2, if_neg a3, if_neg a4, h2]
    simp only [Option.bind_some]
    rw [if_pos (by rw [h3]; omega)]
    exact ⟨_, rfl, (h4 j (by omega)).trans ⟨fun h => ⟨hmay, by omega, by omega, h⟩, fun h => h.2.2.2⟩⟩
  · have : m = false := by cases m; rfl; exact absurd (hm'.1 rfl) hmay
    subst this
    exact ⟨false, rfl, by simp only [Bool.false_eq_true, false_iff]; exact fun h => hmay h.1⟩

/-- All rows. -/
def AllR (n : Nat) (es : List Edge) (all : List (List Bool)) : Prop := all.length = n ∧ ∀ i : Nat, i < n → (rd all (i : Int)).length = n ∧ ∀ j : Nat, j < n → (rd (rd all (i : Int)) (j : Int) = true ↔ Reach es i j)

theorem rd_app {T : Type} [Inhabited T] (xs : List T) (x : T) (i : Nat) (h : i ≤ xs.length) : rd (xs ++ [x]) (i : Int) = if i = xs.length then x else rd xs (i : Int) := by
  simp only [rd, Int.toNat_natCast, List.getD_eq_getElem?_getD]
  split
  · rename_i e; subst e; simp
  · rw [List.getElem?_append_left (by omega)]

theorem RComps_l0 (n : Nat) (hn : n ≤ 64) (es : List Edge) (hl : es.length < 9223372036854775807) (hf : Fit n es) (K m : Nat) (hK : 64 < K) (hK' : es.length < K) (hm : n < m) : ∃ r, templeref6_Comps.l0 K n es m ([], 0) = some r ∧ AllR n es r.1 := by
  refine rounds (L := templeref6_Comps.l0 K n es) (fun s => ∃ t : Nat, s.2 = t ∧ t ≤ n ∧ s.1.length = t ∧ ∀ i : Nat, i < t → (rd s.1 (i : Int)).length = n ∧ ∀ j : Nat, j < n → (rd (rd s.1 (i : Int)) (j : Int) = true ↔ Reach es i j)) (fun s => n - s.2.toNat) _ (fun s m hI => ?_) m _ ⟨0, rfl, Nat.zero_le _, rfl, by intro i h; omega⟩ (by simpa using hm)
  obtain ⟨xs, t'⟩ := s
  obtain ⟨t, rfl, ht, h1, h2⟩ := hI
  simp only at h1 h2
  simp only [templeref6_Comps.l0]
  by_cases hlt : (t : Int) < n
  · obtain ⟨row, e1, e2, e3⟩ := reached_spec n hn es hl hf t (by omega) K hK hK'
    rw [if_pos hlt, e1]
    simp only [Option.bind_some]
    rw [if_pos (by simp; omega), wr (by omega) (by omega)]
    refine .inr ⟨_, ⟨t + 1, by simp, by omega, by simp [h1], fun i hi => ?_⟩, by simp only; omega, rfl⟩
    simp only
    rw [rd_app _ _ _ (by omega)]
    split
    · rename_i e; rw [h1] at e; subst e; exact ⟨e2, e3⟩
    · exact h2 i (by omega)
  · rw [if_neg hlt]
    have : t = n := by omega
    subst this
    exact .inl ⟨_, rfl, h1, h2⟩

theorem RComps_l2 (n : Nat) (hn : n ≤ 64) (es : List Edge) (all : List (List Bool)) (ha : AllR n es all) (i : Nat) (hi : i < n) (K m : Nat) (hm : n < m) : ∃ r, templeref6_Comps.l2 K all i m 0 = some r ∧ ∃ c : Nat, r = c ∧ Least es i c := by
  refine rounds (L := templeref6_Comps.l2 K all i) (fun s => ∃ k : Nat, s = k ∧ k ≤ i ∧ ∀ j, j < k → ¬ Mutual es i j) (fun s => n - s.toNat) _ (fun s m hI => ?_) m _ ⟨0, rfl, Nat.zero_le _, by intro j h; omega⟩ (by simpa using hm)
  obtain ⟨k, rfl, hk, hno⟩ := hI
  obtain ⟨l1, r1⟩ := ha.2 i hi
  obtain ⟨l2, r2⟩ := ha.2 k (by omega)
  have next : ¬ Mutual es i k → ∃ s' : Int, (∃ k : Nat, s' = k ∧ k ≤ i ∧ ∀ j, j < k → ¬ Mutual es i j) ∧ n - s'.toNat < n - (k : Int).toNat ∧ templeref6_Comps.l2 K all i m ((k : Int) + 1) = templeref6_Comps.l2 K all i m s' := by
    intro hmu
    have hlt : k < i := by
      rcases Nat.lt_or_eq_of_le hk with h | h
      · exact h
      · subst h; exact absurd ⟨.refl _, .refl _⟩ hmu
    refine ⟨(k : Int) + 1, ⟨k + 1, by simp, hlt, fun j hj => ?_⟩, by omega, rfl⟩
    rcases Nat.lt_or_eq_of_le (Nat.le_of_lt_succ hj) with h | h
    · exact hno j h
    · subst h; exact hmu
  simp only [templeref6_Comps.l2]
  rw [if_pos (Int.natCast_nonneg i), if_pos (by rw [ha.1]; omega), if_pos (Int.natCast_nonneg k), if_pos (by rw [l1]; omega), wr (by omega) (by omega)]
  by_cases h1 : rd (rd all (i : Int)) (k : Int) = true
  · rw [h1]
    simp only [Bool.not_true, Bool.false_eq_true, if_false]
    rw [if_pos (by rw [ha.1]; omega), if_pos (by rw [l2]; omega)]
    by_cases h2 : rd (rd all (k : Int)) (i : Int) = true
    · rw [h2]
      exact .inl ⟨(k : Int), by simp, k, rfl, hk, ⟨(r1 k (by omega)).1 h1, (r2 i hi).1 h2⟩, hno⟩
    · have : rd (rd all (k : Int)) (i : Int) = false := by simpa using h2
      rw [this]
      simp only [Bool.not_false, if_true]
      exact .inr (next fun h => h2 ((r2 i hi).2 h.2))
  · have : rd (rd all (i : Int)) (k : Int) = false := by simpa using h1
    rw [this]
    simp only [Bool.not_false, if_true]
    exact .inr (next fun h => h1 ((r1 k (by omega)).2 h.1))

theorem RComps_l1 (n : Nat) (hn : n ≤ 64) (es : List Edge) (all : List (List Bool)) (ha : AllR n es all) (K m : Nat) (hK : 64 < K) (hm : n < m) : ∃ r, templeref6_Comps.l1 K n all m ([], 0) = some r ∧ (r.1.length = n ∧ ∀ i : Nat, i < n → ∃ c : Nat, rd r.1 (i : Int) = c ∧ Least es i c) := by
  refine rounds (L := templeref6_Comps.l1 K n all) (fun s => ∃ t : Nat, s.2 = t ∧ t ≤ n ∧ s.1.length = t ∧ ∀ i : Nat, i < t → ∃ c : Nat, rd s.1 (i : Int) = c ∧ Least es i c) (fun s => n - s.2.toNat) _ (fun s m hI => ?_) m _ ⟨0, rfl, Nat.zero_le _, rfl, by intro i h; omega⟩ (by simpa using hm)
  obtain ⟨xs, t'⟩ := s
  obtain ⟨t, rfl, ht, h1, h2⟩ := hI
  simp only at h1 h2
  simp only [templeref6_Comps.l1]
  by_cases hlt : (t : Int) < n
  · obtain ⟨r, e1, c, rfl, e2⟩ := RComps_l2 n hn es all ha t (by omega) K K (by omega)
    rw [if_pos hlt, e1]
    simp only [Option.bind_some]
    rw [if_pos (by simp; omega), wr (by omega) (by omega)]
    refine .inr ⟨_, ⟨t + 1, by simp, by omega, by simp [h1], fun i hi => ?_⟩, by simp only; omega, rfl⟩
    simp only
    rw [rd_app _ _ _ (by omega)]
    split
    · rename_i e; rw [h1] at e; subst e; exact ⟨c, rfl, e2⟩
    · exact h2 i (by omega)
  · rw [if_neg hlt]
    have : t = n := by omega
    subst this
    exact .inl ⟨_, rfl, h1, h2⟩

theorem RComps_spec (names : Int) (es : List Edge) (hl : es.length < 9223372036854775807) (K : Nat) (hK : 64 < K) (hK' : es.length < K) : ∃ r, templeref6_Comps K names es = some r ∧ CompsIs names es r := by
  obtain ⟨m, hm, hm'⟩ := edgesMay_spec names es hl K hK'
  unfold templeref6_Comps
  rw [hm]
  simp only [Option.bind_some]
  by_cases hmay : May names es
  · have := hm'.2 hmay
    subst this
    have hmay' := hmay
    obtain ⟨h0, h1, hf⟩ := hmay'
    obtain ⟨n, rfl⟩ := Int.eq_ofNat_of_zero_le h0
    obtain ⟨⟨all, u⟩, h2, h3⟩ := RComps_l0 n (by omega) es hl hf K K hK hK' (by omega)
    obtain ⟨⟨r1, r2⟩, h4, h5, h6⟩ := RComps_l1 n (by omega) es all h3 K K hK (by omega)
    rw [if_neg (by decide), h2]
    simp only [Option.bind_some]
    rw [h4]
    exact ⟨_, rfl, .inr ⟨hmay, rfl, by simp only at h5 ⊢; omega, fun i hi => h6 i (by omega)⟩⟩
  · have : m = false := by cases m; rfl; exact absurd (hm'.1 rfl) hmay
    subst this
    exact ⟨_, rfl, .inl ⟨hmay, rfl⟩⟩
end Go.Proofs.Ytmjhdhjijbmigaa
