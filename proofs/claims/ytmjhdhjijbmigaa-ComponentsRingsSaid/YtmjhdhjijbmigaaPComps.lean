/-
  What package comps computes, in plain Lean: may, reach, Comps and Reaches of the printed functions. Own work; no claim stands here.
-/
import Derived.Test.YtmjhdhjijbmigaaFF
import Derived.Test.YtmjhdhjijbmigaaPA
namespace Go.Proofs.Ytmjhdhjijbmigaa
open S
set_option linter.unusedVariables false
set_option linter.unusedSimpArgs false

def Fit (n : Int) (es : List Edge) : Prop := ∀ e ∈ es, (0 ≤ e.From ∧ e.From < n) ∧ 0 ≤ e.To ∧ e.To < n
def May (n : Int) (es : List Edge) : Prop := 0 ≤ n ∧ n ≤ 64 ∧ Fit n es

theorem may_spec (names : Int) (es : List Edge) (hl : es.length < 9223372036854775807) (K : Nat) (hK : es.length < K) : ∃ b, comps_may K names es = some b ∧ (b = true ↔ May names es) := by
  unfold comps_may
  by_cases h0 : names < 0
  · exact ⟨false, by rw [if_pos h0], by simp only [Bool.false_eq_true, false_iff]; rintro ⟨h, _⟩; omega⟩
  by_cases h1 : 64 < names
  · exact ⟨false, by rw [if_neg h0, if_pos h1], by simp only [Bool.false_eq_true, false_iff]; rintro ⟨_, h, _⟩; omega⟩
  rw [if_neg h0, if_neg h1]
  obtain ⟨r, hr, hq⟩ := rounds (L := comps_may.l0 K names es) (fun s => ∃ t : Nat, s = t ∧ t ≤ es.length ∧ Fit names (es.take t)) (fun s => es.length - s.toNat)
    (fun r => match r with | .inl _ => Fit names es | .inr b => b = false ∧ ¬ Fit names es) (fun s m hI => by
      obtain ⟨t, rfl, ht, hf⟩ := hI
      simp only [comps_may.l0]
      by_cases hlt : (t : Int) < es.length
      · have hlt' : t < es.length := by omega
        have hm := rd_mem (xs := es) (Int.natCast_nonneg t) hlt
        rw [if_pos hlt, if_pos (Int.natCast_nonneg t)]
        generalize hrd : rd es (t : Int) = e at hm
        by_cases a1 : e.From < 0
        · exact .inl ⟨.inr false, by rw [if_pos a1], rfl, fun h => by have := h e hm; omega⟩
        by_cases a2 : names ≤ e.From
        · exact .inl ⟨.inr false, by rw [if_neg a1, if_pos a2], rfl, fun h => by have := h e hm; omega⟩
        by_cases a3 : e.To < 0
        · exact .inl ⟨.inr false, by rw [if_neg a1, if_neg a2, if_pos a3], rfl, fun h => by have := h e hm; omega⟩
        by_cases a4 : names ≤ e.To
        · exact .inl ⟨.inr false, by rw [if_neg a1, if_neg a2, if_neg a3, if_pos a4], rfl, fun h => by have := h e hm; omega⟩
        rw [if_neg a1, if_neg a2, if_neg a3, if_neg a4, wr (by omega) (by omega)]
        refine .inr ⟨(t : Int) + 1, ⟨t + 1, by simp, hlt', ?_⟩, ?_, rfl⟩
        · intro x hx
          rw [List.take_add_one, List.mem_append] at hx
          rcases hx with hx | hx
          · exact hf x hx
          · have hg := rd_get (xs := es) (Int.natCast_nonneg t) hlt
            rw [Int.toNat_natCast, hrd] at hg
            rw [hg] at hx
            simp at hx; subst hx
            omega
        · omega
      · rw [if_neg hlt]
        refine .inl ⟨_, rfl, ?_⟩
        have : t = es.length := by omega
        subst this
        simpa using hf) K 0 ⟨0, rfl, Nat.zero_le _, by intro e he; simp at he⟩ (by simpa using hK)
  rw [hr]
  cases r with
  | inl s => exact ⟨true, rfl, by simp only [true_iff]; exact ⟨by omega, by omega, hq⟩⟩
  | inr b => obtain ⟨rfl, hq⟩ := hq; exact ⟨false, rfl, by simp only [Bool.false_eq_true, false_iff]; rintro ⟨_, _, h⟩; exact hq h⟩

/-- Rows of bits that tell R. -/
def RB (n : Nat) (xs : List Int) (R : Nat → Nat → Prop) : Prop := xs.length = n ∧ ∀ i, i < n → ∃ b : Nat, b < 2 ^ 64 ∧ rd xs (i : Int) = b ∧ ∀ j, b.testBit j = true ↔ R i j

theorem RB.cong {n : Nat} {xs : List Int} {R S : Nat → Nat → Prop} (h : RB n xs R) (e : ∀ i j, i < n → (R i j ↔ S i j)) : RB n xs S :=
  ⟨h.1, fun i hi => by obtain ⟨b, h1, h2, h3⟩ := h.2 i hi; exact ⟨b, h1, h2, fun j => (h3 j).trans (e i j hi)⟩⟩

theorem RB.put {n : Nat} {xs : List Int} {R S : Nat → Nat → Prop} {t b : Nat} (h : RB n xs R) (ht : t < n) (hb : b < 2 ^ 64) (hs : ∀ j, b.testBit j = true ↔ S t j) (he : ∀ i j, i < n → i ≠ t → (R i j ↔ S i j)) : RB n (xs.set t (b : Int)) S := by
  refine ⟨by simpa using h.1, fun i hi => ?_⟩
  rw [rd_set _ (by rw [h.1]; exact ht)]
  by_cases e : t = i
  · subst e; exact ⟨b, hb, by simp, hs⟩
  · obtain ⟨b', h1, h2, h3⟩ := h.2 i hi
    exact ⟨b', h1, by rw [if_neg e]; exact h2, fun j => (h3 j).trans (he i j hi fun x => e x.symm)⟩

/-- A step of Warshall's. -/
def W (k : Nat) (R : Nat → Nat → Prop) : Nat → Nat → Prop := fun i j => R i j ∨ (R i k ∧ R k j)
def Ws : Nat → (Nat → Nat → Prop) → Nat → Nat → Prop
  | 0, R => R
  | k + 1, R => W k (Ws k R)

theorem W_row (k : Nat) (R : Nat → Nat → Prop) (j : Nat) : W k R k j ↔ R k j := ⟨fun h => h.elim id fun h => h.2, fun h => .inl h⟩
theorem W_col (k : Nat) (R : Nat → Nat → Prop) (i : Nat) : W k R i k ↔ R i k := ⟨fun h => h.elim id fun h => h.1, fun h => .inl h⟩

theorem Ws_mono (R : Nat → Nat → Prop) (k i j : Nat) (h : R i j) : Ws k R i j := by
  induction k with
  | zero => exact h
  | succ k ih => exact .inl ih

theorem Ws_trans (R : Nat → Nat → Prop) (k : Nat) : ∀ m, m < k → ∀ i j, Ws k R i m → Ws k R m j → Ws k R i j := by
  induction k with
  | zero => intro m h; exact absurd h (Nat.not_lt_zero _)
  | succ k ih =>
    intro m hm i j h1 h2
    rcases Nat.lt_or_eq_of_le (Nat.le_of_lt_succ hm) with h | rfl
    · rcases h1 with h1 | ⟨h1, h1'⟩ <;> rcases h2 with h2 | ⟨h2, h2'⟩
      · exact .inl (ih m h i j h1 h2)
      · exact .inr ⟨ih m h i k h1 h2, h2'⟩
      · exact .inr ⟨h1, ih m h k j h1' h2⟩
      · exact .inr ⟨h1, h2'⟩
    · exact .inr ⟨(W_col _ _ _).1 h1, (W_row _ _ _).1 h2⟩

theorem Ws_least (R S : Nat → Nat → Prop) (hs : ∀ i j, R i j → S i j) (ht : ∀ i j k, S i j → S j k → S i k) (k i j : Nat) (h : Ws k R i j) : S i j := by
  induction k generalizing i j with
  | zero => exact hs i j h
  | succ k ih => rcases h with h | ⟨h1, h2⟩
                 · exact ih i j h
                 · exact ht i k j (ih _ _ h1) (ih _ _ h2)

/-- What a row of edges leads to. -/
inductive Reach (es : List Edge) : Int → Int → Prop
  | refl (i : Int) : Reach es i i
  | step {i : Int} {e : Edge} : Reach es i e.From → e ∈ es → Reach es i e.To

theorem Reach.trans {es : List Edge} {i j k : Int} (h1 : Reach es i j) (h2 : Reach es j k) : Reach es i k := by
  induction h2 with
  | refl => exact h1
  | step _ he ih => exact .step ih he

def R0 (es : List Edge) (i j : Nat) : Prop := i = j ∨ ∃ e ∈ es, e.From = i ∧ e.To = j

theorem Ws_reach {n : Nat} {es : List Edge} (hf : Fit n es) {i j : Nat} (hi : i < n) : Ws n (R0 es) i j ↔ Reach es i j := by
  constructor
  · refine Ws_least (R0 es) (fun i j => Reach es i j) (fun i j h => ?_) (fun i j k => Reach.trans) n i j
    rcases h with rfl | ⟨e, he, h1, h2⟩
    · exact .refl _
    · rw [← h2, ← h1]; exact .step (.refl _) he
  · intro h
    have : ∀ a b : Int, Reach es a b → ∀ i : Nat, a = i → i < n → ∃ j : Nat, b = j ∧ j < n ∧ Ws n (R0 es) i j := by
      intro a b h
      induction h with
      | refl => intro i hi hn; exact ⟨i, hi, hn, Ws_mono _ _ _ _ (.inl rfl)⟩
      | @step e _ he ih =>
        intro i hi hn
        obtain ⟨m, h1, h2, h3⟩ := ih i hi hn
        obtain ⟨⟨_, _⟩, h4, h5⟩ := hf e he
        refine ⟨e.To.toNat, by omega, by omega, Ws_trans _ _ m h2 _ _ h3 (Ws_mono _ _ _ _ (.inr ⟨e, he, h1, by omega⟩))⟩
    obtain ⟨j', h1, _, h3⟩ := this i j h i rfl hi
    have : j' = j := by omega
    subst this; exact h3

theorem l0_spec (n : Nat) (hn : n ≤ 64) (K m : Nat) (hm : n < m) : ∃ r, comps_reach.l0 K n m (List.replicate n 0, 0) = some r ∧ RB n r.1 (fun i j => i = j) := by
  refine rounds (L := comps_reach.l0 K n) (fun s => ∃ t : Nat, s.2 = t ∧ t ≤ n ∧ s.1.length = n ∧ ∀ i, i < t → rd s.1 (i : Int) = ((2 ^ i : Nat) : Int)) (fun s => n - s.2.toNat) (fun r => RB n r.1 (fun i j => i = j)) (fun s m hI => ?_) m _ ⟨0, rfl, Nat.zero_le _, by simp, by intro i h; omega⟩ (by simpa using hm)
  obtain ⟨xs, t'⟩ := s
  obtain ⟨t, rfl, ht, hl, hv⟩ := hI
  simp only at hl hv
  simp only [comps_reach.l0, Int.toNat_natCast, List.length_replicate]
  by_cases hlt : (t : Int) < n
  · have hlt' : t < n := by omega
    rw [if_pos hlt, if_pos (Int.natCast_nonneg t), if_pos (by omega), wr (by omega) (by omega), ishl_nat (by omega)]
    refine .inr ⟨_, ⟨t + 1, by simp, hlt', by simpa using hl, fun i hi => ?_⟩, by simp only; omega, rfl⟩
    rw [rd_set _ (by omega)]
    by_cases e : t = i
    · subst e; simp
    · rw [if_neg e]; exact hv i (by omega)
  · rw [if_neg hlt]
    refine .inl ⟨_, rfl, hl, fun i hi => ⟨2 ^ i, Nat.pow_lt_pow_right (by decide) (by omega), hv i (by omega), fun j => ?_⟩⟩
    rw [Nat.testBit_two_pow, decide_eq_true_eq]

theorem l1_spec (n : Nat) (hn : n ≤ 64) (es : List Edge) (hl : es.length < 9223372036854775807) (hf : Fit n es) (xs : List Int) (hx : RB n xs (fun i j => i = j)) (K m : Nat) (hm : es.length < m) : ∃ r, comps_reach.l1 K es m (xs, 0) = some r ∧ RB n r.1 (R0 es) := by
  refine rounds (L := comps_reach.l1 K es) (fun s => ∃ t : Nat, s.2 = t ∧ t ≤ es.length ∧ RB n s.1 (R0 (es.take t))) (fun s => es.length - s.2.toNat) (fun r => RB n r.1 (R0 es)) (fun s m hI => ?_) m _ ⟨0, rfl, Nat.zero_le _, hx.cong fun i j _ => by simp [R0]⟩ (by simpa using hm)
  obtain ⟨xs, t'⟩ := s
  obtain ⟨t, rfl, ht, hv⟩ := hI
  simp only at hv
  simp only [comps_reach.l1]
  by_cases hlt : (t : Int) < es.length
  · have hlt' : t < es.length := by omega
    have hm := rd_mem (xs := es) (Int.natCast_nonneg t) hlt
    have hg := rd_get (xs := es) (Int.natCast_nonneg t) hlt
    rw [if_pos hlt, if_pos (Int.natCast_nonneg t)]
    rw [Int.toNat_natCast] at hg
    generalize rd es (t : Int) = e at hm hg
    obtain ⟨⟨f0, f1⟩, f2, f3⟩ := hf e hm
    obtain ⟨p, hp⟩ := Int.eq_ofNat_of_zero_le f0
    obtain ⟨q, hq⟩ := Int.eq_ofNat_of_zero_le f2
    obtain ⟨b, b1, b2, b3⟩ := hv.2 p (by omega)
    have hq64 : q < 64 := by omega
    rw [if_pos f0, if_pos (by rw [hv.1]; exact f1), if_pos f2, hp, hq, wr (by omega) (by omega), b2, ishl_nat hq64, ior_nat b1 (Nat.pow_lt_pow_right (by decide) hq64), Int.toNat_natCast]
    refine .inr ⟨_, ⟨t + 1, by simp, hlt', hv.put (S := R0 (es.take (t + 1))) (by omega) (Nat.or_lt_two_pow b1 (Nat.pow_lt_pow_right (by decide) hq64)) (fun j => ?_) (fun i j hi hne => ?_)⟩, by simp only; omega, rfl⟩
    · rw [Nat.testBit_or, Bool.or_eq_true, b3, Nat.testBit_two_pow, decide_eq_true_eq]
      simp only [R0, List.take_add_one, hg, List.mem_append, Option.toList_some, List.mem_singleton]
      constructor
      · rintro ((h | ⟨x, hx, h1, h2⟩) | h)
        · exact .inl h
        · exact .inr ⟨x, .inl hx, h1, h2⟩
        · exact .inr ⟨e, .inr rfl, by omega, by omega⟩
      · rintro (h | ⟨x, hx | rfl, h1, h2⟩)
        · exact .inl (.inl h)
        · exact .inl (.inr ⟨x, hx, h1, h2⟩)
        · exact .inr (by omega)
    · simp only [R0, List.take_add_one, hg, List.mem_append, Option.toList_some, List.mem_singleton]
      constructor
      · rintro (h | ⟨x, hx, h1, h2⟩)
        · exact .inl h
        · exact .inr ⟨x, .inl hx, h1, h2⟩
      · rintro (h | ⟨x, hx | rfl, h1, h2⟩)
        · exact .inl h
        · exact .inr ⟨x, hx, h1, h2⟩
        · omega
  · rw [if_neg hlt]
    have : t = es.length := by omega
    subst this
    exact .inl ⟨_, rfl, by simpa using hv⟩

theorem l3_spec (n : Nat) (hn : n ≤ 64) (k : Nat) (hk : k < n) (R : Nat → Nat → Prop) (xs : List Int) (hx : RB n xs R) (K m : Nat) (hm : n < m) : ∃ r, comps_reach.l3 K xs k m (xs, 0) = some r ∧ RB n r.1 (W k R) := by
  refine rounds (L := comps_reach.l3 K xs k) (fun s => ∃ t : Nat, s.2 = t ∧ t ≤ n ∧ RB n s.1 (fun i j => if i < t then W k R i j else R i j)) (fun s => n - s.2.toNat) (fun r => RB n r.1 (W k R)) (fun s m hI => ?_) m _ ⟨0, rfl, Nat.zero_le _, hx.cong fun i j _ => by simp⟩ (by simpa using hm)
  obtain ⟨ys, t'⟩ := s
  obtain ⟨t, rfl, ht, hv⟩ := hI
  simp only at hv
  simp only [comps_reach.l3]
  by_cases hlt : (t : Int) < xs.length
  · have hlt' : t < n := by rw [hx.1] at hlt; omega
    obtain ⟨b, b1, b2, b3⟩ := hv.2 t hlt'
    obtain ⟨c, c1, c2, c3⟩ := hv.2 k hk
    simp only [Nat.lt_irrefl, if_false] at b3
    rw [if_pos hlt, if_pos (Int.natCast_nonneg t), if_pos (by rw [hv.1]; omega), if_pos (Int.natCast_nonneg k), b2, shr_bit b1, wr (by omega) (by omega)]
    by_cases hb : b.testBit k = true
    · rw [if_pos hb, if_pos rfl, if_pos (by rw [hv.1]; omega), c2, ior_nat b1 c1]
      refine .inr ⟨_, ⟨t + 1, by simp, hlt', hv.put hlt' (Nat.or_lt_two_pow b1 c1) (fun j => ?_) fun i j hi hne => ?_⟩, by simp only; omega, rfl⟩
      · rw [Nat.testBit_or, Bool.or_eq_true, b3, c3, if_pos (by omega)]
        have hc : (if k < t then W k R k j else R k j) ↔ R k j := by split; exact W_row k R j; exact Iff.rfl
        show R t j ∨ (if k < t then W k R k j else R k j) ↔ _
        rw [hc]
        constructor
        · rintro (h | h)
          · exact .inl h
          · exact .inr ⟨(b3 k).1 hb, h⟩
        · rintro (h | h)
          · exact .inl h
          · exact .inr h.2
      · by_cases e : i < t
        · rw [if_pos e, if_pos (by omega)]
        · rw [if_neg e, if_neg (by omega)]
    · rw [if_neg hb, if_neg (by decide)]
      refine .inr ⟨_, ⟨t + 1, by simp, hlt', hv.cong fun i j hi => ?_⟩, by simp only; omega, rfl⟩
      by_cases e : i < t
      · rw [if_pos e, if_pos (by omega)]
      · rw [if_neg e]
        by_cases e2 : i = t
        · subst e2
          rw [if_pos (by omega)]
          exact ⟨fun h => .inl h, fun h => h.elim id fun h => absurd ((b3 k).2 h.1) hb⟩
        · rw [if_neg (by omega)]
  · rw [if_neg hlt]
    refine .inl ⟨_, rfl, hv.cong fun i j hi => ?_⟩
    rw [hx.1] at hlt
    rw [if_pos (by omega)]

theorem l2_spec (n : Nat) (hn : n ≤ 64) (R : Nat → Nat → Prop) (xs : List Int) (hx : RB n xs R) (K m : Nat) (hK : n < K) (hm : n < m) : ∃ r, comps_reach.l2 K xs m (xs, 0) = some r ∧ RB n r.1 (Ws n R) := by
  refine rounds (L := comps_reach.l2 K xs) (fun s => ∃ t : Nat, s.2 = t ∧ t ≤ n ∧ RB n s.1 (Ws t R)) (fun s => n - s.2.toNat) (fun r => RB n r.1 (Ws n R)) (fun s m hI => ?_) m _ ⟨0, rfl, Nat.zero_le _, hx⟩ (by simpa using hm)
  obtain ⟨ys, t'⟩ := s
  obtain ⟨t, rfl, ht, hv⟩ := hI
  simp only at hv
  simp only [comps_reach.l2]
  by_cases hlt : (t : Int) < xs.length
  · have hlt' : t < n := by rw [hx.1] at hlt; omega
    obtain ⟨⟨r1, r2⟩, h1, h2⟩ := l3_spec n hn t hlt' (Ws t R) ys hv K K hK
    rw [if_pos hlt, h1, wr (by omega) (by omega)]
    exact .inr ⟨(r1, (t : Int) + 1), ⟨t + 1, by simp, hlt', h2⟩, by simp only; omega, rfl⟩
  · rw [if_neg hlt]
    rw [hx.1] at hlt
    have : t = n := by omega
    subst this
    exact .inl ⟨_, rfl, hv⟩

/-- reach: the rows tell what is reached. -/
theorem reach_spec (n : Nat) (hn : n ≤ 64) (es : List Edge) (hl : es.length < 9223372036854775807) (hf : Fit n es) (K : Nat) (hK : n < K) (hK' : es.length < K) : ∃ xs, comps_reach K n es = some xs ∧ RB n xs (fun i j => Reach es i j) := by
  obtain ⟨⟨x0, t0⟩, h0, g0⟩ := l0_spec n hn K K hK
  obtain ⟨⟨x1, t1⟩, h1, g1⟩ := l1_spec n hn es hl hf x0 g0 K K hK'
  obtain ⟨⟨x2, t2⟩, h2, g2⟩ := l2_spec n hn _ x1 g1 K K hK hK
  refine ⟨x2, ?_, g2.cong fun i j hi => Ws_reach hf hi⟩
  unfold comps_reach
  rw [if_pos (Int.natCast_nonneg n), if_pos (by omega), Int.toNat_natCast, h0]
  simp only [Option.bind_some, h1, h2]

/-- Reaches. -/
theorem Reaches_spec (names : Int) (es : List Edge) (a b : Int) (hl : es.length < 9223372036854775807) (K : Nat) (hK : 64 < K) (hK' : es.length < K) : ∃ r, comps_Reaches K names es a b = some r ∧ (r = true ↔ May names es ∧ (0 ≤ a ∧ a < names) ∧ (0 ≤ b ∧ b < names) ∧ Reach es a b) := by
  obtain ⟨m, hm, hm'⟩ := may_spec names es hl K hK'
  unfold comps_Reaches
  rw [hm]
  simp only [Option.bind_some]
  by_cases hmay : May names es
  · have := hm'.2 hmay
    subst this
    have hmay' := hmay
    obtain ⟨h0, h1, hf⟩ := hmay'
    obtain ⟨n, rfl⟩ := Int.eq_ofNat_of_zero_le h0
    rw [if_neg (by decide)]
    by_cases a1 : a < 0
    · exact ⟨false, by rw [if_pos a1], by simp only [Bool.false_eq_true, false_iff]; rintro ⟨_, _, _⟩; omega⟩
    by_cases a2 : (n : Int) ≤ a
    · exact ⟨false, by rw [if_neg a1, if_pos a2], by simp only [Bool.false_eq_true, false_iff]; rintro ⟨_, _, _⟩; omega⟩
    by_cases a3 : b < 0
    · exact ⟨false, by rw [if_neg a1, if_neg a2, if_pos a3], by simp only [Bool.false_eq_true, false_iff]; rintro ⟨_, _, _, _⟩; omega⟩
    by_cases a4 : (n : Int) ≤ b
    · exact ⟨false, by rw [if_neg a1, if_neg a2, if_neg a3, if_pos a4], by simp only [Bool.false_eq_true, false_iff]; rintro ⟨_, _, _, _⟩; omega⟩
    obtain ⟨i, rfl⟩ := Int.eq_ofNat_of_zero_le (show 0 ≤ a by omega)
    obtain ⟨j, rfl⟩ := Int.eq_ofNat_of_zero_le (show 0 ≤ b by omega)
    obtain ⟨xs, h2, h3, h4⟩ := reach_spec n (by omega) es hl hf K (by omega) hK'
    obtain ⟨c, c1, c2, c3⟩ := h4 i (by omega)
    rw [if_neg a1, if_neg a2, if_neg a3, if_neg a4, h2]
    simp only [Option.bind_some]
    rw [if_pos (by rw [h3]; omega), c2, shr_bit c1]
    refine ⟨_, rfl, ?_⟩
    rw [decide_eq_true_eq]
    by_cases hb : c.testBit j = true
    · rw [if_pos hb]
      simp only [true_iff]
      exact ⟨hmay, by omega, by omega, (c3 j).1 hb⟩
    · rw [if_neg hb]
      refine ⟨fun h => absurd h (by decide), fun h => absurd ((c3 j).2 h.2.2.2) hb⟩
  · have : m = false := by cases m; rfl; exact absurd (hm'.1 rfl) hmay
    subst this
    exact ⟨false, rfl, by simp only [Bool.false_eq_true, false_iff]; exact fun h => hmay h.1⟩
end Go.Proofs.Ytmjhdhjijbmigaa
