/-
  What package comps computes, in plain Lean, the second text: Comps; the laws' own small functions. Own work; no claim stands here.
-/
import Derived.Test.YtmjhdhjijbmigaaFF
import Derived.Test.YtmjhdhjijbmigaaPComps
namespace Go.Proofs.Ytmjhdhjijbmigaa
open S
set_option linter.unusedVariables false
set_option linter.unusedSimpArgs false

def Mutual (es : List Edge) (i j : Nat) : Prop := Reach es i j ∧ Reach es j i
/-- c is the least one that i hangs together with. -/
def Least (es : List Edge) (i c : Nat) : Prop := c ≤ i ∧ Mutual es i c ∧ ∀ j, j < c → ¬ Mutual es i j

theorem Least.uniq {es : List Edge} {i c d : Nat} (h1 : Least es i c) (h2 : Least es i d) : c = d := by
  rcases Nat.lt_trichotomy c d with h | h | h
  · exact absurd h1.2.1 (h2.2.2 c h)
  · exact h
  · exact absurd h2.2.1 (h1.2.2 d h)

theorem Comps_l1 (n : Nat) (hn : n ≤ 64) (es : List Edge) (rs : List Int) (hr : RB n rs fun i j => Reach es i j) (t : Nat) (ht : t < n) (xs : List Int) (hl : xs.length = n) (h0 : rd xs (t : Int) = 0) (K m : Nat) (hm : n < m) :
    ∃ ys, comps_Comps.l1 K rs t m xs = some ys ∧ (ys.length = n ∧ (∃ c : Nat, rd ys (t : Int) = c ∧ Least es t c) ∧ ∀ j : Nat, j ≠ t → rd ys (j : Int) = rd xs (j : Int)) := by
  refine rounds (L := comps_Comps.l1 K rs t) (fun ys => ys.length = n ∧ (∃ c : Nat, c ≤ t ∧ rd ys (t : Int) = c ∧ ∀ j, j < c → ¬ Mutual es t j) ∧ ∀ j : Nat, j ≠ t → rd ys (j : Int) = rd xs (j : Int)) (fun ys => n - (rd ys (t : Int)).toNat) _ (fun ys m hI => ?_) m xs ⟨hl, ⟨0, Nat.zero_le _, by simpa using h0, by intro j h; omega⟩, fun _ _ => rfl⟩ (by rw [h0]; simpa using hm)
  obtain ⟨hy, ⟨c, hct, hc, hno⟩, ho⟩ := hI
  obtain ⟨b, b1, b2, b3⟩ := hr.2 t ht
  obtain ⟨d, d1, d2, d3⟩ := hr.2 c (by omega)
  have next : (¬ Mutual es t c) → ∃ s' : List Int, (s'.length = n ∧ (∃ c : Nat, c ≤ t ∧ rd s' (t : Int) = c ∧ ∀ j, j < c → ¬ Mutual es t j) ∧ ∀ j : Nat, j ≠ t → rd s' (j : Int) = rd xs (j : Int)) ∧ n - (rd s' (t : Int)).toNat < n - ((c : Int)).toNat ∧ comps_Comps.l1 K rs t m (ys.set t ((c : Int) + 1)) = comps_Comps.l1 K rs t m s' := by
    intro hmu
    have hlt : c < t := by
      rcases Nat.lt_or_eq_of_le hct with h | h
      · exact h
      · subst h; exact absurd ⟨.refl _, .refl _⟩ hmu
    refine ⟨_, ⟨by simpa using hy, ⟨c + 1, hlt, ?_, fun j hj => ?_⟩, fun j hj => ?_⟩, ?_, rfl⟩
    · rw [rd_set _ (by omega), if_pos rfl]; simp
    · rcases Nat.lt_or_eq_of_le (Nat.le_of_lt_succ hj) with h | h
      · exact hno j h
      · subst h; exact hmu
    · rw [rd_set _ (by omega), if_neg (fun e => hj e.symm)]; exact ho j hj
    · rw [rd_set _ (by omega), if_pos rfl]; omega
  simp only [comps_Comps.l1, Int.toNat_natCast]
  rw [if_pos (Int.natCast_nonneg t), if_pos (by rw [hr.1]; omega), if_pos (by omega), hc, if_pos (Int.natCast_nonneg c), b2, d2, shr_bit b1, shr_bit d1, wr (by omega) (by omega)]
  by_cases hb : b.testBit c = true
  · rw [if_pos hb, if_neg (by decide), if_pos (by rw [hr.1]; omega)]
    by_cases hd : d.testBit t = true
    · rw [if_pos hd, if_neg (by decide)]
      exact .inl ⟨ys, rfl, hy, ⟨c, hc, hct, ⟨(b3 c).1 hb, (d3 t).1 hd⟩, hno⟩, ho⟩
    · rw [if_neg hd, if_pos rfl]
      exact .inr (next fun h => hd ((d3 t).2 h.2))
  · rw [if_neg hb, if_pos rfl]
    exact .inr (next fun h => hb ((b3 c).2 h.1))

theorem Comps_l0 (n : Nat) (hn : n ≤ 64) (es : List Edge) (rs : List Int) (hr : RB n rs fun i j => Reach es i j) (K m : Nat) (hK : n < K) (hm : n < m) :
    ∃ r, comps_Comps.l0 K n rs m (List.replicate n 0, 0) = some r ∧ (r.1.length = n ∧ ∀ i, i < n → ∃ c : Nat, rd r.1 (i : Int) = c ∧ Least es i c) := by
  refine rounds (L := comps_Comps.l0 K n rs) (fun s => ∃ t : Nat, s.2 = t ∧ t ≤ n ∧ s.1.length = n ∧ (∀ i, i < t → ∃ c : Nat, rd s.1 (i : Int) = c ∧ Least es i c) ∧ ∀ i, t ≤ i → i < n → rd s.1 (i : Int) = 0) (fun s => n - s.2.toNat) _ (fun s m hI => ?_) m _ ⟨0, rfl, Nat.zero_le _, by simp, by intro i h; omega, fun i _ hi => rd_rep _ hi⟩ (by simpa using hm)
  obtain ⟨xs, t'⟩ := s
  obtain ⟨t, rfl, ht, hl, h1, h2⟩ := hI
  simp only at hl h1 h2
  simp only [comps_Comps.l0, Int.toNat_natCast, List.length_replicate]
  by_cases hlt : (t : Int) < n
  · have hlt' : t < n := by omega
    obtain ⟨ys, e, g1, g2, g3⟩ := Comps_l1 n hn es rs hr t hlt' xs hl (h2 t (Nat.le_refl _) hlt') K K hK
    rw [if_pos hlt, e, wr (by omega) (by omega)]
    refine .inr ⟨(ys, (t : Int) + 1), ⟨t + 1, by simp, hlt', g1, fun i hi => ?_, fun i h3 h4 => ?_⟩, by simp only; omega, rfl⟩
    · rcases Nat.lt_or_eq_of_le (Nat.le_of_lt_succ hi) with h | rfl
      · rw [g3 i (by omega)]; exact h1 i h
      · exact g2
    · rw [g3 i (by omega)]; exact h2 i (by omega) h4
  · rw [if_neg hlt]
    exact .inl ⟨_, rfl, hl, fun i hi => h1 i (by omega)⟩

/-- What Comps answers. -/
def CompsIs (names : Int) (es : List Edge) (r : List Int × Int) : Prop := (¬ May names es ∧ r = ([], 700)) ∨ (May names es ∧ r.2 = 0 ∧ (r.1.length : Int) = names ∧ ∀ i : Nat, (i : Int) < names → ∃ c : Nat, rd r.1 (i : Int) = c ∧ Least es i c)

theorem Comps_spec (names : Int) (es : List Edge) (hl : es.length < 9223372036854775807) (K : Nat) (hK : 64 < K) (hK' : es.length < K) : ∃ r, comps_Comps K names es = some r ∧ CompsIs names es r := by
  obtain ⟨m, hm, hm'⟩ := may_spec names es hl K hK'
  unfold comps_Comps
  rw [hm]
  simp only [Option.bind_some]
  by_cases hmay : May names es
  · have := hm'.2 hmay
    subst this
    have hmay' := hmay
    obtain ⟨h0, h1, hf⟩ := hmay'
    obtain ⟨n, rfl⟩ := Int.eq_ofNat_of_zero_le h0
    obtain ⟨xs, h2, h3⟩ := reach_spec n (by omega) es hl hf K (by omega) hK'
    obtain ⟨⟨r1, r2⟩, h4, h5, h6⟩ := Comps_l0 n (by omega) es xs h3 K K (by omega) (by omega)
    rw [if_neg (by decide), h2]
    simp only [Option.bind_some]
    rw [if_pos h0, if_pos (by omega), Int.toNat_natCast, h4]
    exact ⟨_, rfl, .inr ⟨hmay, rfl, by simp only at h5 ⊢; omega, fun i hi => h6 i (by omega)⟩⟩
  · have : m = false := by cases m; rfl; exact absurd (hm'.1 rfl) hmay
    subst this
    exact ⟨_, rfl, .inl ⟨hmay, rfl⟩⟩

theorem rd_ext {xs ys : List Int} (hl : xs.length = ys.length) (h : ∀ i : Nat, i < xs.length → rd xs (i : Int) = rd ys (i : Int)) : xs = ys := by
  apply List.ext_getElem hl
  intro i h1 h2
  have := h i h1
  simpa [rd, List.getD_eq_getElem?_getD, h1, h2] using this

theorem CompsIs.uniq {names : Int} {es : List Edge} {r s : List Int × Int} (h1 : CompsIs names es r) (h2 : CompsIs names es s) : r = s := by
  rcases h1 with ⟨a, rfl⟩ | ⟨a, b, c, d⟩ <;> rcases h2 with ⟨a', rfl⟩ | ⟨a', b', c', d'⟩
  · rfl
  · exact absurd a' a
  · exact absurd a a'
  · obtain ⟨x, y⟩ := r
    obtain ⟨x', y'⟩ := s
    simp only at b b' c c' d d'
    subst b b'
    rw [rd_ext (xs := x) (ys := x') (by omega) fun i hi => ?_]
    obtain ⟨p, p1, p2⟩ := d i (by omega)
    obtain ⟨q, q1, q2⟩ := d' i (by omega)
    rw [p1, q1, p2.uniq q2]

/-- With other fuel the same. -/
theorem Comps_fuel {names : Int} {es : List Edge} {K : Nat} {r : List Int × Int} (J : Nat) (hJ : 64 < J) (hJ' : es.length < J) (he : comps_Comps J names es = some r) (hl : es.length < 9223372036854775807) (hK : 64 < K) (hK' : es.length < K) : comps_Comps K names es = some r := by
  obtain ⟨s, h1, h2⟩ := Comps_spec names es hl K hK hK'
  obtain ⟨s', h3, h4⟩ := Comps_spec names es hl J hJ hJ'
  rw [he] at h3; cases h3
  rw [h1, h2.uniq h4]
theorem Reaches_fuel {names a b : Int} {es : List Edge} {K : Nat} {r : Bool} (J : Nat) (hJ : 64 < J) (hJ' : es.length < J) (he : comps_Reaches J names es a b = some r) (hl : es.length < 9223372036854775807) (hK : 64 < K) (hK' : es.length < K) : comps_Reaches K names es a b = some r := by
  obtain ⟨s, h1, h2⟩ := Reaches_spec names es a b hl K hK hK'
  obtain ⟨s', h3, h4⟩ := Reaches_spec names es a b hl J hJ hJ'
  rw [he] at h3; cases h3
  rw [h1]
  have : s = r := by cases s <;> cases r <;> simp_all
  rw [this]

theorem SameInts_spec (a b : List Int) (hl : a.length < 9223372036854775807) (K : Nat) (hK : a.length < K) : templelaw0_SameInts K a b = some (decide (a = b)) := by
  unfold templelaw0_SameInts
  by_cases h0 : (a.length : Int) ≠ b.length
  · rw [if_pos h0]
    congr 1
    symm
    rw [decide_eq_false_iff_not]
    intro h; subst h; exact h0 rfl
  rw [if_neg h0]
  have h0' : a.length = b.length := by omega
  obtain ⟨r, hr, hq⟩ := rounds (L := templelaw0_SameInts.l0 K a b) (fun s => ∃ t : Nat, s = t ∧ t ≤ a.length ∧ ∀ i : Nat, i < t → rd a (i : Int) = rd b (i : Int)) (fun s => a.length - s.toNat)
    (fun r => match r with | .inl _ => a = b | .inr c => c = false ∧ a ≠ b) (fun s m hI => by
      obtain ⟨t, rfl, ht, hv⟩ := hI
      simp only [templelaw0_SameInts.l0]
      by_cases hlt : (t : Int) < a.length
      · rw [if_pos hlt, if_pos (Int.natCast_nonneg t), if_pos (by omega)]
        by_cases hne : rd a (t : Int) ≠ rd b (t : Int)
        · rw [if_pos hne]
          exact .inl ⟨.inr false, rfl, rfl, fun e => hne (by rw [e])⟩
        · rw [if_neg hne, wr (by omega) (by omega)]
          refine .inr ⟨(t : Int) + 1, ⟨t + 1, by simp, by omega, fun i hi => ?_⟩, ?_, rfl⟩
          · rcases Nat.lt_or_eq_of_le (Nat.le_of_lt_succ hi) with h | h
            · exact hv i h
            · subst h; exact Classical.not_not.1 hne
          · omega
      · rw [if_neg hlt]
        have : t = a.length := by omega
        subst this
        exact .inl ⟨_, rfl, rd_ext h0' hv⟩) K 0 ⟨0, rfl, Nat.zero_le _, by intro i h; omega⟩ (by simpa using hK)
  rw [hr]
  cases r with
  | inl s => simp only at hq; subst hq; simp [brk]
  | inr c => obtain ⟨rfl, hq⟩ := hq; simp [brk, hq]
end Go.Proofs.Ytmjhdhjijbmigaa
