/-
  What the document's own answers of chapter 7 compute, in plain Lean: edgesMay, reached, Comps, Reaches. Own work; no claim stands here.
-/
import Derived.Test.YtmjhdhjijbmigaaPComps2
namespace Go.Proofs.Ytmjhdhjijbmigaa
open S
set_option linter.unusedVariables false
set_option linter.unusedSimpArgs false

theorem edgesMay_spec (names : Int) (es : List Edge) (hl : es.length < 9223372036854775807) (K : Nat) (hK : es.length < K) : ∃ b, templeref6_edgesMay K names es = some b ∧ (b = true ↔ May names es) := by
  unfold templeref6_edgesMay
  obtain ⟨r, hr, hq⟩ := rounds (L := templeref6_edgesMay.l0 K names es) (fun s => ∃ t : Nat, s = t ∧ t ≤ es.length ∧ Fit names (es.take t)) (fun s => es.length - s.toNat)
    (fun r => match r with | .inl _ => Fit names es | .inr b => b = false ∧ ¬ Fit names es) (fun s m hI => by
      obtain ⟨t, rfl, ht, hf⟩ := hI
      simp only [templeref6_edgesMay.l0]
      by_cases hlt : (t : Int) < es.length
      · have hlt' : t < es.length := by omega
        have hm := rd_mem (xs := es) (Int.natCast_nonneg t) hlt
        rw [if_pos hlt, if_pos (Int.natCast_nonneg t)]
        generalize hrd : rd es (t : Int) = e at hm
        by_cases a1 : e.From < 0
        · exact .inl ⟨.inr false, by rw [if_pos a1], rfl, fun h => by have := h e hm; omega⟩
        by_cases a2 : names ≤ e.From
        · exact .inl ⟨.inr false, by rw [if_neg a1, if_pos a2], rfl, fun h => by have := h e hm; omega⟩
        by_cases a3 : e.To < 0
        · exact .inl ⟨.inr false, by rw [if_neg a1, if_neg a2, if_pos a3], rfl, fun h => by have := h e hm; omega⟩
        by_cases a4 : names ≤ e.To
        · exact .inl ⟨.inr false, by rw [if_neg a1, if_neg a2, if_neg a3, if_pos a4], rfl, fun h => by have := h e hm; omega⟩
        rw [if_neg a1, if_neg a2, if_neg a3, if_neg a4, wr (by omega) (by omega)]
        refine .inr ⟨(t : Int) + 1, ⟨t + 1, by simp, hlt', ?_⟩, by omega, rfl⟩
        intro x hx
        rw [List.take_add_one, List.mem_append] at hx
        rcases hx with hx | hx
        · exact hf x hx
        · have hg := rd_get (xs := es) (Int.natCast_nonneg t) hlt
          rw [Int.toNat_natCast, hrd] at hg
          rw [hg] at hx
          simp at hx; subst hx
          omega
      · rw [if_neg hlt]
        refine .inl ⟨.inl (t : Int), rfl, ?_⟩
        have : t = es.length := by omega
        subst this
        simpa using hf) K 0 ⟨0, rfl, Nat.zero_le _, by intro e he; simp at he⟩ (by simpa using hK)
  rw [hr]
  cases r with
  | inl s =>
    by_cases h0 : 0 ≤ names
    · refine ⟨decide (names ≤ 64), by simp [brk, h0], ?_⟩
      rw [decide_eq_true_eq]
      exact ⟨fun h => ⟨h0, h, hq⟩, fun h => h.2.1⟩
    · exact ⟨false, by simp [brk, h0], by simp only [Bool.false_eq_true, false_iff]; exact fun h => h0 h.1⟩
  | inr b => obtain ⟨rfl, hq⟩ := hq; exact ⟨false, by simp [brk], by simp only [Bool.false_eq_true, false_iff]; rintro ⟨_, _, h⟩; exact hq h⟩

/-- A list of truth values is below another one. -/
def BLe (xs ys : List Bool) : Prop := xs.length = ys.length ∧ ∀ i : Nat, i < xs.length → rd xs (i : Int) = true → rd ys (i : Int) = true
theorem BLe.refl (xs : List Bool) : BLe xs xs := ⟨rfl, fun _ _ h => h⟩
theorem BLe.trans {xs ys zs : List Bool} (h1 : BLe xs ys) (h2 : BLe ys zs) : BLe xs zs := ⟨h1.1.trans h2.1, fun i hi h => h2.2 i (by have := h1.1; omega) (h1.2 i hi h)⟩

theorem count_lt : ∀ {xs ys : List Bool}, BLe xs ys → xs ≠ ys → xs.count true < ys.count true := by
  have le : ∀ {xs ys : List Bool}, BLe xs ys → xs.count true ≤ ys.count true := by
    intro xs
    induction xs with
    | nil => intro ys h; simp
    | cons x xs ih =>
      intro ys h
      cases ys with
      | nil => have := h.1; simp at this
      | cons y ys =>
        have ht : BLe xs ys := ⟨by have := h.1; simpa using this, fun i hi hx => by
          have := h.2 (i + 1) (by simp; omega)
          simp only [rd, Int.toNat_natCast, List.getD_cons_succ] at this hx ⊢
          exact this hx⟩
        have h0 := h.2 0 (by simp)
        simp only [rd, Int.toNat_natCast, List.getD_cons_zero] at h0
        have := ih ht
        cases x <;> cases y <;> simp at h0 ⊢ <;> omega
  intro xs
  induction xs with
  | nil => intro ys h hne; have := h.1; simp at this; exact absurd (by rw [List.eq_nil_of_length_eq_zero this.symm]) hne
  | cons x xs ih =>
    intro ys h hne
    cases ys with
    | nil => have := h.1; simp at this
    | cons y ys =>
      have ht : BLe xs ys := ⟨by have := h.1; simpa using this, fun i hi hx => by
        have := h.2 (i + 1) (by simp; omega)
        simp only [rd, Int.toNat_natCast, List.getD_cons_succ] at this hx ⊢
        exact this hx⟩
      have h0 := h.2 0 (by simp)
      simp only [rd, Int.toNat_natCast, List.getD_cons_zero] at h0
      by_cases e : xs = ys
      · subst e
        cases x <;> cases y <;> simp at h0 hne ⊢
      · have := ih ht e
        cases x <;> cases y <;> simp at h0 ⊢ <;> omega

/-- One pass over the edges. -/
theorem pass_spec (n : Nat) (es : List Edge) (hl : es.length < 9223372036854775807) (hf : Fit n es) (G : Nat → Prop) (hG : ∀ e ∈ es, ∀ i j : Nat, e.From = i → e.To = j → G i → G j) (xs : List Bool) (hx : xs.length = n) (hs : ∀ i : Nat, i < n → rd xs (i : Int) = true → G i) (K m : Nat) (hm : es.length < m) :
    ∃ r, templeref6_reached.l1 K es m (xs, 0) = some r ∧ (BLe xs r.1 ∧ (∀ i : Nat, i < n → rd r.1 (i : Int) = true → G i) ∧ ∀ e ∈ es, rd xs e.From = true → rd r.1 e.To = true) := by
  refine rounds (L := templeref6_reached.l1 K es) (fun s => ∃ t : Nat, s.2 = t ∧ t ≤ es.length ∧ BLe xs s.1 ∧ (∀ i : Nat, i < n → rd s.1 (i : Int) = true → G i) ∧ ∀ e ∈ es.take t, rd xs e.From = true → rd s.1 e.To = true) (fun s => es.length - s.2.toNat) _ (fun s m hI => ?_) m _ ⟨0, rfl, Nat.zero_le _, BLe.refl _, hs, by simp⟩ (by simpa using hm)
  obtain ⟨ys, t'⟩ := s
  obtain ⟨t, rfl, ht, h1, h2, h3⟩ := hI
  simp only at h1 h2 h3
  simp only [templeref6_reached.l1]
  by_cases hlt : (t : Int) < es.length
  · have hlt' : t < es.length := by omega
    have hm := rd_mem (xs := es) (Int.natCast_nonneg t) hlt
    have hg := rd_get (xs := es) (Int.natCast_nonneg t) hlt
    rw [Int.toNat_natCast] at hg
    rw [if_pos hlt, if_pos (Int.natCast_nonneg t)]
    generalize rd es (t : Int) = e at hm hg
    obtain ⟨⟨f0, f1⟩, f2, f3⟩ := hf e hm
    have hyl : ys.length = n := by have := h1.1; omega
    obtain ⟨p, hp⟩ := Int.eq_ofNat_of_zero_le f0
    obtain ⟨q, hq⟩ := Int.eq_ofNat_of_zero_le f2
    have htake : es.take (t + 1) = es.take t ++ [e] := by rw [List.take_add_one, hg]; rfl
    rw [if_pos f0, if_pos (by omega), wr (by omega) (by omega)]
    by_cases hb : rd ys e.From = true
    · rw [if_pos hb, if_pos f2, if_pos (by omega)]
      have hset : ∀ j : Nat, rd (ys.set e.To.toNat true) (j : Int) = if q = j then true else rd ys (j : Int) := by
        intro j
        rw [hq, Int.toNat_natCast, rd_set _ (by omega)]
      refine .inr ⟨_, ⟨t + 1, by simp, hlt', h1.trans ⟨by simp, fun i hi h => ?_⟩, fun i hi h => ?_, fun e' he' h => ?_⟩, by simp only; omega, rfl⟩
      · rw [hset]; split <;> first | rfl | exact h
      · rw [hset] at h
        split at h
        · rename_i hqi
          subst hqi
          exact hG e hm p q hp hq (h2 p (by omega) (by rw [← hp]; exact hb))
        · exact h2 i hi h
      · rw [htake, List.mem_append] at he'
        rcases he' with he' | he'
        · have := h3 e' he' h
          obtain ⟨⟨_, _⟩, g2, g3⟩ := hf e' (List.mem_of_mem_take he')
          obtain ⟨u, hu⟩ := Int.eq_ofNat_of_zero_le g2
          rw [hu] at this ⊢
          rw [hset]; split <;> first | rfl | exact this
        · simp at he'; subst he'
          have := hset q
          rw [if_pos rfl, ← hq] at this
          exact this
    · rw [if_neg hb]
      refine .inr ⟨_, ⟨t + 1, by simp, hlt', h1, h2, fun e' he' h => ?_⟩, by simp only; omega, rfl⟩
      rw [htake, List.mem_append] at he'
      rcases he' with he' | he'
      · exact h3 e' he' h
      · simp at he'; subst he'
        refine absurd ?_ hb
        rw [hp] at h ⊢
        exact h1.2 p (by omega) h
  · rw [if_neg hlt]
    have : t = es.length := by omega
    subst this
    rw [List.take_length] at h3
    exact .inl ⟨_, rfl, h1, h2, h3⟩

theorem rd_true_mem {xs : List Bool} {i : Nat} (h : rd xs (i : Int) = true) : i < xs.length := by
  rcases Nat.lt_or_ge i xs.length with h' | h'
  · exact h'
  · simp [rd, List.getD_eq_getElem?_getD, h'] at h

/-- The rows that tell what a number reaches. -/
theorem reached_spec (n : Nat) (hn : n ≤ 64) (es : List Edge) (hl : es.length < 9223372036854775807) (hf : Fit n es) (a : Nat) (ha : a < n) (K : Nat) (hK : 64 < K) (hK' : es.length < K) : ∃ xs, templeref6_reached K n es a = some xs ∧ (xs.length = n ∧ ∀ j : Nat, j < n → (rd xs (j : Int) = true ↔ Reach es a j)) := by
  unfold templeref6_reached
  rw [if_pos (Int.natCast_nonneg n), if_pos (by omega), if_pos (Int.natCast_nonneg a), if_pos (by simp; omega), Int.toNat_natCast, Int.toNat_natCast]
  let G : Nat → Prop := fun j => Reach es a j
  have hG : ∀ e ∈ es, ∀ i j : Nat, e.From = i → e.To = j → G i → G j := fun e he i j h1 h2 hg => by
    show Reach es a j
    rw [← h2]
    exact .step (by rw [h1]; exact hg) he
  have init1 : ∀ i : Nat, i < n → rd ((List.replicate n false).set a true) (i : Int) = true → G i := by
    intro i hi h
    rw [rd_set _ (by simp; omega)] at h
    split at h
    · rename_i hai
      subst hai
      exact .refl _
    · rw [rd_rep _ hi] at h; cases h
  have init2 : rd ((List.replicate n false).set a true) (a : Int) = true := by rw [rd_set _ (by simp; omega), if_pos rfl]
  have init3 : 0 + 1 ≤ ((List.replicate n false).set a true).count true := by
    have : true ∈ (List.replicate n false).set a true := List.mem_of_getElem? (i := a) (by simp [ha])
    have := List.count_pos_iff.2 this
    omega
  obtain ⟨r, hr, hq1, hq2, hq3, hq4⟩ := rounds (L := templeref6_reached.l0 K n es) (fun s => ∃ t : Nat, s.2 = t ∧ t ≤ n ∧ s.1.length = n ∧ (∀ i : Nat, i < n → rd s.1 (i : Int) = true → G i) ∧ rd s.1 (a : Int) = true ∧ ((∀ e ∈ es, rd s.1 e.From = true → rd s.1 e.To = true) ∨ t + 1 ≤ s.1.count true)) (fun s => n - s.2.toNat)
    (fun r => r.1.length = n ∧ (∀ i : Nat, i < n → rd r.1 (i : Int) = true → G i) ∧ rd r.1 (a : Int) = true ∧ ∀ e ∈ es, rd r.1 e.From = true → rd r.1 e.To = true) (fun s m hI => by
      obtain ⟨xs, t'⟩ := s
      obtain ⟨t, rfl, ht, h1, h2, h3, h4⟩ := hI
      simp only at h1 h2 h3 h4
      simp only [templeref6_reached.l0]
      by_cases hlt : (t : Int) < n
      · obtain ⟨⟨ys, u⟩, e1, e2, e3, e4⟩ := pass_spec n es hl hf G hG xs h1 h2 K K hK'
        simp only at e2 e3 e4
        rw [if_pos hlt, e1, wr (by omega) (by omega)]
        refine .inr ⟨(ys, (t : Int) + 1), ⟨t + 1, by simp, by omega, by have := e2.1; simp only; omega, e3, e2.2 a (by omega) h3, ?_⟩, by simp only; omega, rfl⟩
        by_cases he : xs = ys
        · subst he; exact .inl e4
        · have hc := count_lt e2 he
          rcases h4 with h4 | h4
          · -- it was closed: nothing can be new
            refine .inl fun e he' hfr => ?_
            have hsub : ∀ i : Nat, i < n → rd ys (i : Int) = true → rd xs (i : Int) = true := by
              obtain ⟨⟨zs, v⟩, k1, _, k3, _⟩ := pass_spec n es hl hf (fun i => rd xs (i : Int) = true) (fun e he i j h1 h2 hg => by
                have := h4 e he (by rw [h1]; exact hg)
                rwa [h2] at this) xs h1 (fun i _ h => h) K K hK'
              rw [e1] at k1; cases k1
              exact k3
            obtain ⟨⟨f0, f1⟩, f2, f3⟩ := hf e he'
            obtain ⟨p, hp⟩ := Int.eq_ofNat_of_zero_le f0
            obtain ⟨q, hq⟩ := Int.eq_ofNat_of_zero_le f2
            simp only at hfr ⊢
            rw [hp] at hfr
            have := h4 e he' (by rw [hp]; exact hsub p (by omega) hfr)
            rw [hq] at this ⊢
            exact e2.2 q (by omega) this
          · exact .inr (by simp only; omega)
      · rw [if_neg hlt]
        refine .inl ⟨_, rfl, h1, h2, h3, ?_⟩
        rcases h4 with h4 | h4
        · exact h4
        · have := List.count_le_length (a := true) (l := xs)
          omega) K ((List.replicate n false).set a true, 0) ⟨0, rfl, Nat.zero_le _, by simp, init1, init2, .inr init3⟩ (by simp only [Int.toNat_zero]; omega)
  rw [hr]
  obtain ⟨xs, t⟩ := r
  simp only at hq1 hq2 hq3 hq4
  refine ⟨xs, rfl, hq1, fun j hj => ⟨hq2 j hj, fun h => ?_⟩⟩
  have : ∀ x : Int, Reach es a x → rd xs x = true := by
    intro x hx
    induction hx with
    | refl => exact hq3
    | step _ he ih => exact hq4 _ he ih
  exact this j h
end Go.Proofs.Ytmjhdhjijbmigaa
