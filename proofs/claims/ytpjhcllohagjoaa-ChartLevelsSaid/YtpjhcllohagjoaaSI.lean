/-
  Sim: whole numbers within floats: complex numbers whose parts are whole are reckoned with as whole numbers. Own work; no claim stands here.
-/
import Derived.Test.YtpjhcllohagjoaaSH
import Derived.Laws.ComplexArith
namespace Go.Proofs.Ytpjhcllohagjoaa
namespace S
open Go.RowKit
set_option linter.unusedVariables false
set_option linter.unusedSimpArgs false
set_option exponentiation.threshold 3000

section
open Ieee
theorem log2_shift {a k : Nat} (ha : a ≠ 0) : (a * 2 ^ k).log2 = a.log2 + k := by
  rw [Nat.log2_eq_iff (by have := Nat.two_pow_pos k; exact Nat.mul_ne_zero ha (by omega))]
  have h1 := Nat.log2_self_le ha
  have h2 := Nat.lt_log2_self (n := a)
  constructor
  · rw [Nat.pow_add]; exact Nat.mul_le_mul_right _ h1
  · rw [show a.log2 + k + 1 = (a.log2 + 1) + k by omega, Nat.pow_add]
    exact Nat.mul_lt_mul_of_pos_right h2 (Nat.two_pow_pos k)

theorem cut_exact {neg : Bool} {k drop : Nat} (h : drop ≤ (k * 2 ^ drop).log2 + 2) : Toward.even.cut neg (k * 2 ^ drop) drop = k := by
  unfold Toward.cut
  have hp := Nat.two_pow_pos drop
  rw [Nat.min_eq_left h]
  simp only [Nat.shiftLeft_eq, Nat.one_mul, Nat.mul_div_cancel _ hp, Nat.mul_mod_left, Nat.mul_zero]
  have h1 : decide (2 ^ drop < 0) = false := by simp
  have h2 : (2 ^ drop == 0) = false := by simp
  rw [h1, h2]; simp

/-- What is whole and small comes back as it was written. -/
theorem write_read (neg : Bool) (mag : Nat) (place : Int) (N : Nat) (hN : N < 2 ^ 53) (h : mag * 2 ^ place.toNat = N * 2 ^ (-place).toNat) :
    ∃ m e, double.read (double.nearest neg mag place) = .number neg m e ∧ m * 2 ^ e.toNat = N * 2 ^ (-e).toNat := by
  have hbin : double.binade = 2 ^ 52 := rfl
  have hsw : double.signWeight = 2 ^ 63 := rfl
  have hlp : double.leastPlace = -1074 := by decide
  have hinf : double.infRung = 2047 * 2 ^ 52 := by decide
  have hfb : double.fractionBits = 52 := rfl
  have rd : ∀ R : Nat, R < 2 ^ 63 → (double.word neg R / 2 ^ 63 % 2 == 1) = neg ∧ double.word neg R % 2 ^ 63 = R := by
    intro R hR
    unfold Format.word
    rw [hsw]
    cases neg
    · simp only [Bool.false_eq_true, if_false]
      rw [Nat.div_eq_of_lt hR, Nat.mod_eq_of_lt hR]; simp
    · simp only [if_true]
      rw [Nat.add_div_left _ (by decide), Nat.div_eq_of_lt hR, Nat.add_mod_left, Nat.mod_eq_of_lt hR]; simp
  by_cases h0 : N = 0
  · subst h0
    have hm : mag = 0 := by
      have := Nat.two_pow_pos place.toNat
      rw [Nat.zero_mul] at h
      rcases Nat.mul_eq_zero.1 h with h | h
      · exact h
      · omega
    subst hm
    refine ⟨0, -1074, ?_, by simp⟩
    unfold Format.nearest
    rw [if_pos rfl]
    unfold Format.read
    simp only [hsw, hbin, hinf, hlp]
    obtain ⟨r1, r2⟩ := rd 0 (by decide)
    rw [r1, r2, if_pos (by decide)]
  · have hmag : mag ≠ 0 := by
      intro hm; subst hm
      rw [Nat.zero_mul] at h
      rcases Nat.mul_eq_zero.1 h.symm with h | h
      · exact h0 h
      · have := Nat.two_pow_pos (-place).toNat; omega
    obtain ⟨L, hL⟩ : ∃ L, L = N.log2 := ⟨_, rfl⟩
    have hL52 : L ≤ 52 := by
      have : N.log2 < 53 := (Nat.log2_lt h0).2 hN
      omega
    have hlog : (mag.log2 : Int) + place = L := by
      have h1 := log2_shift (k := place.toNat) hmag
      have h2 := log2_shift (k := (-place).toNat) h0
      rw [h, h2] at h1
      omega
    have hk0 : 2 ^ 52 ≤ N * 2 ^ (52 - L) := by
      have := Nat.log2_self_le h0
      rw [← hL] at this
      calc 2 ^ 52 = 2 ^ L * 2 ^ (52 - L) := by rw [← Nat.pow_add]; congr 1; omega
        _ ≤ _ := Nat.mul_le_mul_right _ this
    have hk1 : N * 2 ^ (52 - L) < 2 ^ 53 := by
      have := Nat.lt_log2_self (n := N)
      rw [← hL] at this
      calc N * 2 ^ (52 - L) < 2 ^ (L + 1) * 2 ^ (52 - L) := Nat.mul_lt_mul_of_pos_right this (Nat.two_pow_pos _)
        _ = 2 ^ 53 := by rw [← Nat.pow_add]; congr 1; omega
    have hlast : max (place + mag.log2 - double.fractionBits) double.leastPlace = (L : Int) - 52 := by
      rw [hfb, hlp]; omega
    have hcut : Toward.even.cut neg (mag <<< (place - ((L : Int) - 52)).toNat) ((L : Int) - 52 - place).toNat = N * 2 ^ (52 - L) := by
      rw [Nat.shiftLeft_eq]
      by_cases hq : (L : Int) - 52 ≤ place
      · have e0 : ((L : Int) - 52 - place).toNat = 0 := by omega
        have e1 : mag * 2 ^ (place - ((L : Int) - 52)).toNat = N * 2 ^ (52 - L) := by
          by_cases hp : 0 ≤ place
          · have e2 : (-place).toNat = 0 := by omega
            rw [e2, Nat.pow_zero, Nat.mul_one] at h
            rw [← h, Nat.mul_assoc, ← Nat.pow_add]; congr 2; omega
          · have e2 : place.toNat = 0 := by omega
            rw [e2, Nat.pow_zero, Nat.mul_one] at h
            rw [h, Nat.mul_assoc, ← Nat.pow_add]; congr 2; omega
        rw [e0, e1]
        have := cut_exact (neg := neg) (k := N * 2 ^ (52 - L)) (drop := 0) (Nat.zero_le _)
        rwa [Nat.pow_zero, Nat.mul_one] at this
      · have e0 : (place - ((L : Int) - 52)).toNat = 0 := by omega
        have e2 : place.toNat = 0 := by omega
        rw [e2, Nat.pow_zero, Nat.mul_one] at h
        have e1 : mag = (N * 2 ^ (52 - L)) * 2 ^ ((L : Int) - 52 - place).toNat := by
          rw [h, Nat.mul_assoc, ← Nat.pow_add]; congr 2; omega
        rw [e0, Nat.pow_zero, Nat.mul_one]
        rw [show Toward.even.cut neg mag ((L : Int) - 52 - place).toNat = Toward.even.cut neg ((N * 2 ^ (52 - L)) * 2 ^ ((L : Int) - 52 - place).toNat) ((L : Int) - 52 - place).toNat by rw [← e1]]
        exact cut_exact (by rw [← e1]; omega)
    refine ⟨N * 2 ^ (52 - L), (L : Int) - 52, ?_, by rw [show ((L : Int) - 52).toNat = 0 by omega, show (-((L : Int) - 52)).toNat = 52 - L by omega]; simp⟩
    unfold Format.nearest
    rw [if_neg hmag]
    simp only [hlast, hcut]
    generalize N * 2 ^ (52 - L) = kept at hk0 hk1
    rw [hlp, hbin, hinf, show ((L : Int) - 52 - -1074).toNat = L + 1022 by omega]
    have hR : (L + 1022) * 2 ^ 52 + kept < 2047 * 2 ^ 52 := by simp only [Nat.reducePow] at *; omega
    rw [Nat.min_eq_left (by omega)]
    unfold Format.read
    simp only [hsw, hbin, hinf, hlp]
    obtain ⟨r1, r2⟩ := rd ((L + 1022) * 2 ^ 52 + kept) (by simp only [Nat.reducePow] at *; omega)
    rw [r1, r2, if_neg (by simp only [Nat.reducePow] at *; omega), if_pos hR]
    have d1 : ((L + 1022) * 2 ^ 52 + kept) / 2 ^ 52 = L + 1023 := by simp only [Nat.reducePow] at *; omega
    have d2 : ((L + 1022) * 2 ^ 52 + kept) % 2 ^ 52 = kept - 2 ^ 52 := by simp only [Nat.reducePow] at *; omega
    rw [d1, d2]
    have e1 : 2 ^ 52 + (kept - 2 ^ 52) = kept := by omega
    have e2 : (-1074 : Int) + ((L + 1023 - 1 : Nat) : Int) = (L : Int) - 52 := by omega
    rw [e1, e2]

/-- The datum tells the whole number n. -/
def Vl (s : Bool) (m : Nat) (e : Int) (n : Int) : Prop := signed s m 0 * 2 ^ e.toNat = n * 2 ^ (-e).toNat
/-- The word reads as the whole number n. -/
def Rd (b : Nat) (n : Int) : Prop := b < 2 ^ 64 ∧ ∃ s m e, double.read b = .number s m e ∧ Vl s m e n

theorem signed_zero (s : Bool) (m : Nat) : signed s m 0 = if s then -(m : Int) else m := by unfold signed; cases s <;> simp
theorem signed_shift (s : Bool) (m k : Nat) : signed s m k = signed s m 0 * 2 ^ k := by
  unfold signed
  cases s <;> simp [Nat.shiftLeft_eq, Int.natCast_mul, Int.neg_mul]

theorem write_vl {s : Bool} {m : Nat} {e : Int} {n : Int} (h : Vl s m e n) (h0 : -9007199254740992 < n) (h1 : n < 9007199254740992) : Rd (double.write (.number s m e)) n := by
  refine ⟨double.write_lt _, ?_⟩
  have hN : m * 2 ^ e.toNat = n.natAbs * 2 ^ (-e).toNat := by
    unfold Vl at h
    rw [signed_zero] at h
    have h2 := congrArg Int.natAbs h
    rw [Int.natAbs_mul, Int.natAbs_mul, Int.natAbs_pow, Int.natAbs_pow] at h2
    simpa [show (if s = true then -(m : Int) else (m : Int)).natAbs = m by cases s <;> simp] using h2
  obtain ⟨m', e', r1, r2⟩ := write_read s m e n.natAbs (by simp only [Nat.reducePow]; omega) hN
  refine ⟨s, m', e', r1, ?_⟩
  unfold Vl
  rw [signed_zero]
  have r3 : (m' : Int) * 2 ^ e'.toNat = (n.natAbs : Int) * 2 ^ (-e').toNat := by exact_mod_cast r2
  -- the sign
  by_cases hz : n = 0
  · subst hz
    have hm0 : m' = 0 := by
      have := Nat.two_pow_pos e'.toNat
      simp only [Int.natAbs_zero, Nat.zero_mul] at r2
      rcases Nat.mul_eq_zero.1 r2 with h | h
      · exact h
      · omega
    subst hm0
    cases s <;> simp
  · have hs : (s = true → n < 0) ∧ (s = false → 0 < n) := by
      unfold Vl at h
      rw [signed_zero] at h
      have p1 : (0 : Int) < 2 ^ e.toNat := Int.pow_pos (by decide)
      have p2 : (0 : Int) < 2 ^ (-e).toNat := Int.pow_pos (by decide)
      constructor
      · rintro rfl
        simp only [if_true] at h
        rcases Int.lt_trichotomy n 0 with h3 | h3 | h3
        · exact h3
        · exact absurd h3 hz
        · have a1 : 0 < n * 2 ^ (-e).toNat := Int.mul_pos h3 p2
          have a2 : -(m : Int) * 2 ^ e.toNat ≤ 0 := by
            rw [Int.neg_mul]
            have := Int.mul_nonneg (Int.natCast_nonneg m) (Int.le_of_lt p1)
            omega
          omega
      · rintro rfl
        simp only [Bool.false_eq_true, if_false] at h
        rcases Int.lt_trichotomy n 0 with h3 | h3 | h3
        · have a1 : n * 2 ^ (-e).toNat < 0 := Int.mul_neg_of_neg_of_pos h3 p2
          have a2 := Int.mul_nonneg (Int.natCast_nonneg m) (Int.le_of_lt p1)
          omega
        · exact absurd h3 hz
        · exact h3
    cases s
    · have := hs.2 rfl
      simp only [Bool.false_eq_true, if_false]
      rw [r3, show (n.natAbs : Int) = n by omega]
    · have := hs.1 rfl
      simp only [if_true]
      rw [Int.neg_mul, r3, show (n.natAbs : Int) = -n by omega, Int.neg_mul, Int.neg_neg]

theorem pow_split (a b : Nat) : (2 : Int) ^ (a + b) = 2 ^ a * 2 ^ b := Int.pow_add ..

theorem sum_vl {s t : Bool} {m n : Nat} {i j : Int} {a b : Int} (h1 : Vl s m i a) (h2 : Vl t n j b) : ∃ u, (Datum.number s m i).sum (.number t n j) = some (.number u (signed s m (i - min i j).toNat + signed t n (j - min i j).toNat).natAbs (min i j)) ∧ Vl u (signed s m (i - min i j).toNat + signed t n (j - min i j).toNat).natAbs (min i j) (a + b) := by
  refine ⟨_, rfl, ?_⟩
  have hT : (signed s m (i - min i j).toNat + signed t n (j - min i j).toNat) * 2 ^ (min i j).toNat = (a + b) * 2 ^ (-(min i j)).toNat := by
    have part : ∀ (s : Bool) (m : Nat) (i base a : Int), base ≤ i → Vl s m i a → signed s m (i - base).toNat * 2 ^ base.toNat = a * 2 ^ (-base).toNat := by
      intro s m i base a hb h
      unfold Vl at h
      rw [signed_shift, Int.mul_assoc, ← pow_split]
      by_cases hi : 0 ≤ base
      · rw [show (i - base).toNat + base.toNat = i.toNat by omega, h, show (-i).toNat = 0 by omega, show (-base).toNat = 0 by omega]
      · by_cases hi2 : 0 ≤ i
        · rw [show (i - base).toNat + base.toNat = i.toNat + (-base).toNat by omega, pow_split, ← Int.mul_assoc, h, show (-i).toNat = 0 by omega]
          simp
        · rw [show (i - base).toNat + base.toNat = i.toNat + (i - base).toNat by omega, pow_split, ← Int.mul_assoc, h, Int.mul_assoc, ← pow_split]
          congr 2; omega
    rw [Int.add_mul, part s m i _ a (by omega) h1, part t n j _ b (by omega) h2, Int.add_mul]
  generalize hS : signed s m (i - min i j).toNat + signed t n (j - min i j).toNat = S at hT
  unfold Vl
  rw [signed_zero]
  have : (if (if S = 0 then s && t else decide (S < 0)) = true then -(S.natAbs : Int) else (S.natAbs : Int)) = S := by
    by_cases h0 : S = 0
    · subst h0; cases (s && t) <;> simp
    · rw [if_neg h0]
      by_cases hn : S < 0
      · simp [hn]; omega
      · simp [hn]; omega
  rw [this, hT]

theorem product_vl {s t : Bool} {m n : Nat} {i j : Int} {a b : Int} (h1 : Vl s m i a) (h2 : Vl t n j b) : (Datum.number s m i).product (.number t n j) = some (.number (s ^^ t) (m * n) (i + j)) ∧ Vl (s ^^ t) (m * n) (i + j) (a * b) := by
  refine ⟨rfl, ?_⟩
  unfold Vl at *
  rw [signed_zero] at *
  have hs : (if (s ^^ t) = true then -((m * n : Nat) : Int) else ((m * n : Nat) : Int)) = (if s = true then -(m : Int) else m) * (if t = true then -(n : Int) else n) := by
    cases s <;> cases t <;> simp [Int.natCast_mul, Int.neg_mul, Int.mul_neg]
  rw [hs]
  generalize (if s = true then -(m : Int) else m) = A at *
  generalize (if t = true then -(n : Int) else n) = B at *
  -- multiply by what is common
  have key : A * B * (2 ^ i.toNat * 2 ^ j.toNat) = a * b * (2 ^ (-i).toNat * 2 ^ (-j).toNat) := by
    calc A * B * (2 ^ i.toNat * 2 ^ j.toNat) = (A * 2 ^ i.toNat) * (B * 2 ^ j.toNat) := by ac_rfl
      _ = (a * 2 ^ (-i).toNat) * (b * 2 ^ (-j).toNat) := by rw [h1, h2]
      _ = _ := by ac_rfl
  rw [← pow_split, ← pow_split] at key
  -- i⁺ + j⁺ = (i + j)⁺ + c, i⁻ + j⁻ = (i + j)⁻ + c
  obtain ⟨c, c1, c2⟩ : ∃ c, i.toNat + j.toNat = (i + j).toNat + c ∧ (-i).toNat + (-j).toNat = (-(i + j)).toNat + c := ⟨i.toNat + j.toNat - (i + j).toNat, by omega, by omega⟩
  rw [c1, c2, pow_split, pow_split, ← Int.mul_assoc, ← Int.mul_assoc] at key
  exact Int.eq_of_mul_eq_mul_right (by have : (0 : Int) < 2 ^ c := Int.pow_pos (by decide); omega) key

theorem opposite_vl {s : Bool} {m : Nat} {e n : Int} (h : Vl s m e n) : Vl (!s) m e (-n) := by
  unfold Vl at *
  rw [signed_zero] at *
  cases s <;> simp [Int.neg_mul] at * <;> omega

theorem rd_add {x y : Nat} {a b : Int} (h1 : Rd x a) (h2 : Rd y b) (h0 : -9007199254740992 < a + b) (h3 : a + b < 9007199254740992) : ∃ r, floatBits .add .f64 x y = some r ∧ Rd r (a + b) := by
  obtain ⟨_, s, m, i, e1, v1⟩ := h1
  obtain ⟨_, t, n, j, e2, v2⟩ := h2
  obtain ⟨u, e3, v3⟩ := sum_vl v1 v2
  refine ⟨_, ?_, write_vl v3 h0 h3⟩
  show double.add x y = _
  unfold Format.add
  rw [e1, e2, e3]; rfl
theorem rd_sub {x y : Nat} {a b : Int} (h1 : Rd x a) (h2 : Rd y b) (h0 : -9007199254740992 < a - b) (h3 : a - b < 9007199254740992) : ∃ r, floatBits .sub .f64 x y = some r ∧ Rd r (a - b) := by
  obtain ⟨_, s, m, i, e1, v1⟩ := h1
  obtain ⟨_, t, n, j, e2, v2⟩ := h2
  obtain ⟨u, e3, v3⟩ := sum_vl v1 (opposite_vl v2)
  rw [← Int.sub_eq_add_neg] at v3
  refine ⟨_, ?_, write_vl v3 h0 h3⟩
  show double.sub x y = _
  unfold Format.sub
  rw [e1, e2]
  show (Datum.sum _ (.number (!t) n j)).map _ = _
  rw [e3]; rfl
theorem rd_mul {x y : Nat} {a b : Int} (h1 : Rd x a) (h2 : Rd y b) (h0 : -9007199254740992 < a * b) (h3 : a * b < 9007199254740992) : ∃ r, floatBits .mul .f64 x y = some r ∧ Rd r (a * b) := by
  obtain ⟨_, s, m, i, e1, v1⟩ := h1
  obtain ⟨_, t, n, j, e2, v2⟩ := h2
  obtain ⟨e3, v3⟩ := product_vl v1 v2
  refine ⟨_, ?_, write_vl v3 h0 h3⟩
  show double.mul x y = _
  unfold Format.mul
  rw [e1, e2, e3]; rfl
theorem rd_int {n : Int} (h0 : -9007199254740992 < n) (h1 : n < 9007199254740992) : Rd (FloatKind.f64.nearest n) n := by
  refine write_vl ?_ h0 h1
  unfold Vl
  rw [signed_zero]
  by_cases h : n < 0
  · simp [h]; omega
  · simp [h]; omega

theorem xor_top {b : Nat} (h : b < 2 ^ 64) : b ^^^ 2 ^ 63 = if b < 2 ^ 63 then b + 2 ^ 63 else b - 2 ^ 63 := by
  have key : ∀ c : Nat, c < 2 ^ 63 → c ^^^ 2 ^ 63 = c + 2 ^ 63 := by
    intro c hc
    have h1 := Nat.two_pow_add_eq_or_of_lt hc 1
    have h2 : 2 ^ 63 ||| c = 2 ^ 63 ^^^ c := by
      apply Nat.eq_of_testBit_eq
      intro i
      rw [Nat.testBit_or, Nat.testBit_xor, Nat.testBit_two_pow]
      by_cases hi : 63 = i
      · subst hi
        rw [Nat.testBit_lt_two_pow hc]; simp
      · simp [hi]
    rw [Nat.xor_comm, ← h2]
    rw [Nat.mul_one] at h1
    omega
  by_cases hb : b < 2 ^ 63
  · rw [if_pos hb, key b hb]
  · rw [if_neg hb]
    have h1 : b - 2 ^ 63 < 2 ^ 63 := by simp only [Nat.reducePow] at *; omega
    have h2 := key _ h1
    rw [Nat.sub_add_cancel (by omega)] at h2
    rw [show b ^^^ 2 ^ 63 = ((b - 2 ^ 63) ^^^ 2 ^ 63) ^^^ 2 ^ 63 by rw [h2], Nat.xor_assoc, Nat.xor_self, Nat.xor_zero]

theorem rd_neg {b : Nat} {n : Int} (h : Rd b n) : Rd (Op.negFloat .f64 b) (-n) := by
  obtain ⟨hb, s, m, e, h1, h2⟩ := h
  have hx : Op.negFloat .f64 b = b ^^^ 2 ^ 63 := rfl
  rw [hx, xor_top hb]
  have hlt : (if b < 2 ^ 63 then b + 2 ^ 63 else b - 2 ^ 63) < 2 ^ 64 := by simp only [Nat.reducePow] at *; split <;> omega
  refine ⟨hlt, !s, m, e, ?_, opposite_vl h2⟩
  have hsw : double.signWeight = 2 ^ 63 := rfl
  have hmod : (if b < 2 ^ 63 then b + 2 ^ 63 else b - 2 ^ 63) % 2 ^ 63 = b % 2 ^ 63 := by simp only [Nat.reducePow] at *; split <;> omega
  have hsg : ((if b < 2 ^ 63 then b + 2 ^ 63 else b - 2 ^ 63) / 2 ^ 63 % 2 == 1) = !(b / 2 ^ 63 % 2 == 1) := by
    simp only [Nat.reducePow] at *
    by_cases h0 : b < 9223372036854775808
    · rw [if_pos h0, show (b + 9223372036854775808) / 9223372036854775808 = 1 by omega, show b / 9223372036854775808 = 0 by omega]; rfl
    · rw [if_neg h0, show (b - 9223372036854775808) / 9223372036854775808 = 0 by omega, show b / 9223372036854775808 = 1 by omega]; rfl
  unfold Format.read at h1 ⊢
  simp only [hsw] at h1 ⊢
  rw [hmod, hsg]
  split at h1
  · rename_i h3
    rw [if_pos h3]
    cases h1; rfl
  · rename_i h3
    rw [if_neg h3]
    split at h1
    · rename_i h4
      rw [if_pos h4]
      cases h1; rfl
    · split at h1 <;> cases h1

theorem rd_toInt {b : Nat} {n : Int} (h : Rd b n) (h0 : -9007199254740992 < n) (h1 : n < 9007199254740992) : floatToIntVal .f64 b .i64 = some n := by
  obtain ⟨hb, s, m, e, h2, h3⟩ := h
  unfold floatToIntVal
  have hd : FloatKind.f64.decode b = .number s m e := h2
  rw [hd]
  have hN : m * 2 ^ e.toNat = n.natAbs * 2 ^ (-e).toNat := by
    have h4 := h3
    unfold Vl at h4
    rw [signed_zero] at h4
    have h5 := congrArg Int.natAbs h4
    rw [Int.natAbs_mul, Int.natAbs_mul, Int.natAbs_pow, Int.natAbs_pow] at h5
    simpa [show (if s = true then -(m : Int) else (m : Int)).natAbs = m by cases s <;> simp] using h5
  have hcut : Toward.zero.cut s (m <<< e.toNat) (-e).toNat = n.natAbs := by
    rw [Nat.shiftLeft_eq, hN]
    unfold Toward.cut
    simp only [Nat.shiftLeft_eq, Nat.one_mul]
    by_cases hz : n.natAbs = 0
    · rw [hz]; simp
    · have hl := log2_shift (k := (-e).toNat) hz
      rw [Nat.min_eq_left (by omega), Nat.mul_div_cancel _ (Nat.two_pow_pos _)]; simp
  have hint : (Datum.number s m e).toInt .zero = some (signed s n.natAbs 0) := by
    unfold Datum.toInt Datum.integral
    simp only [hcut]
  rw [hint]
  have hs : signed s n.natAbs 0 = n := by
    rw [signed_zero]
    unfold Vl at h3
    rw [signed_zero] at h3
    have p1 : (0 : Int) < 2 ^ e.toNat := Int.pow_pos (by decide)
    have p2 : (0 : Int) < 2 ^ (-e).toNat := Int.pow_pos (by decide)
    by_cases hn : 0 < n
    · have a1 : 0 < n * 2 ^ (-e).toNat := Int.mul_pos hn p2
      cases s with
      | false => simp; omega
      | true =>
        simp only [if_true] at h3
        have := Int.mul_nonneg (Int.natCast_nonneg m) (Int.le_of_lt p1)
        rw [Int.neg_mul] at h3
        omega
    · by_cases hn0 : n = 0
      · subst hn0; cases s <;> simp
      · have a1 : n * 2 ^ (-e).toNat < 0 := Int.mul_neg_of_neg_of_pos (by omega) p2
        cases s with
        | true => simp; omega
        | false =>
          simp only [Bool.false_eq_true, if_false] at h3
          have := Int.mul_nonneg (Int.natCast_nonneg m) (Int.le_of_lt p1)
          omega
  simp only [hs]
  rw [if_pos (by simp [IntKind.min, IntKind.max, IntKind.signed, IntKind.bits]; omega)]

end

/-- A whole number that a float64 tells exactly. -/
def sml (n : Int) : Prop := -9007199254740992 < n ∧ n < 9007199254740992
instance (n : Int) : Decidable (sml n) := inferInstanceAs (Decidable (_ ∧ _))
def AV.fl (n : Int) : AV := ⟨fun _ _ v => (∃ b, v = .float .f64 b ∧ Rd b n) ∧ sml n, fun _ _ h => h⟩
def AV.cx (z : Int × Int) : AV := ⟨fun _ _ v => (∃ x y, v = .complex .f64 x y ∧ Rd x z.1 ∧ Rd y z.2) ∧ sml z.1 ∧ sml z.2, fun _ _ h => h⟩
theorem oFl {n : Int} : (AV.fl n).One := fun _ _ _ ⟨⟨_, e, _⟩, _⟩ => by rw [e]; rfl
theorem oCx {z : Int × Int} : (AV.cx z).One := fun _ _ _ ⟨⟨_, _, e, _⟩, _⟩ => by rw [e]; rfl
theorem flFl {n : Int} : Flat (.fl n) := fun _ _ _ _ _ h => h
theorem flCx {z : Int × Int} : Flat (.cx z) := fun _ _ _ _ _ h => h
theorem rd_zero : Rd 0 0 := ⟨by decide, false, 0, -1074, by decide, by unfold Vl; decide⟩
theorem rd_one : Rd 4607182418800017408 1 := ⟨by decide, false, 2 ^ 52, -52, by decide, by unfold Vl; decide⟩

/-- All that a product's way passes is told exactly. -/
def cmulOk (z w : Int × Int) : Prop := sml (z.1 * w.1) ∧ sml (z.2 * w.2) ∧ sml (z.1 * w.1 - z.2 * w.2) ∧ sml (z.1 * w.2) ∧ sml (z.2 * w.1) ∧ sml (z.1 * w.2 + z.2 * w.1)
instance (z w : Int × Int) : Decidable (cmulOk z w) := inferInstanceAs (Decidable (_ ∧ _ ∧ _ ∧ _ ∧ _ ∧ _))
def cmul (z w : Int × Int) : Int × Int := (z.1 * w.1 - z.2 * w.2, z.1 * w.2 + z.2 * w.1)
def caddOk (z w : Int × Int) : Prop := sml (z.1 + w.1) ∧ sml (z.2 + w.2)
instance (z w : Int × Int) : Decidable (caddOk z w) := inferInstanceAs (Decidable (_ ∧ _))
def cadd (z w : Int × Int) : Int × Int := (z.1 + w.1, z.2 + w.2)

section
variable {P : Program} {n : Nat} {fr : Fr} {H : List Res} {t t' t'' ty e : TypeId} {x y : Operand}
theorem dCx1 (hx : x = .const (.complex .f64 4607182418800017408 0)) : D P n H (.assign x) ty fr (.cx (1, 0)) :=
  .of fun o ho hty w Z F ρ _ hf => by
    subst hx
    have h1 : ρ (.const (.complex .f64 4607182418800017408 0)) = _ := hf (a := .lit _) (by simp [Op.operands]) rfl
    exact ⟨_, by simp [execOp, ho, go_sem], ⟨_, _, h1, rd_one, rd_zero⟩, by decide, by decide⟩
theorem dCx0 (hx : x = .const (.complex .f64 0 0)) : D P n H (.assign x) ty fr (.cx (0, 0)) :=
  .of fun o ho hty w Z F ρ _ hf => by
    subst hx
    have h1 : ρ (.const (.complex .f64 0 0)) = _ := hf (a := .lit _) (by simp [Op.operands]) rfl
    exact ⟨_, by simp [execOp, ho, go_sem], ⟨_, _, h1, rd_zero, rd_zero⟩, by decide, by decide⟩
theorem dRe {z : Int × Int} (hx : arg fr x = some (.cx z)) : D P n H (.call ⟨.builtin .real, #[x], #[t]⟩) ty fr (.fl z.1) :=
  .of fun o ho hty w Z F ρ _ hf => by
    obtain ⟨⟨a, b, h1, h2, h3⟩, h4, h5⟩ := hf (by simp [Op.operands, Call.operands]) hx
    exact ⟨.float .f64 a, by simp [execOp, ho, h1, resolve, invoke, builtin, run_real, Sem.run_bind], ⟨_, rfl, h2⟩, h4⟩
theorem dIm {z : Int × Int} (hx : arg fr x = some (.cx z)) : D P n H (.call ⟨.builtin .imag, #[x], #[t]⟩) ty fr (.fl z.2) :=
  .of fun o ho hty w Z F ρ _ hf => by
    obtain ⟨⟨a, b, h1, h2, h3⟩, h4, h5⟩ := hf (by simp [Op.operands, Call.operands]) hx
    exact ⟨.float .f64 b, by simp [execOp, ho, h1, resolve, invoke, builtin, run_imag, Sem.run_bind], ⟨_, rfl, h3⟩, h5⟩
theorem dCx {a b : Int} (hx : arg fr x = some (.fl a)) (hy : arg fr y = some (.fl b)) : D P n H (.call ⟨.builtin .complex, #[x, y], #[t, t']⟩) ty fr (.cx (a, b)) :=
  .of fun o ho hty w Z F ρ _ hf => by
    obtain ⟨⟨u, h1, h2⟩, h3⟩ := hf (by simp [Op.operands, Call.operands]) hx
    obtain ⟨⟨v, k1, k2⟩, k3⟩ := hf (by simp [Op.operands, Call.operands]) hy
    exact ⟨.complex .f64 u v, by simp [execOp, ho, h1, k1, resolve, invoke, builtin, run_complex, Sem.run_bind], ⟨_, _, rfl, h2, k2⟩, h3, k3⟩
theorem dNegF {a : Int} (hx : arg fr x = some (.fl a)) : D P n H (.unOp .neg t x) ty fr (.fl (-a)) :=
  .of fun o ho hty w Z F ρ _ hf => by
    obtain ⟨⟨u, h1, h2⟩, h3⟩ := hf (by simp [Op.operands]) hx
    exact ⟨.float .f64 (Op.negFloat .f64 u), by simp [execOp, ho, h1, go_sem, Op.unary], ⟨_, rfl, rd_neg h2⟩, by unfold sml at *; omega⟩
theorem dF2I {a : Int} {u : TypeDesc} (hs : P.underlying t = some u) (hd : P.underlying t' = some (.int .i64)) (hx : arg fr x = some (.fl a)) : D P n H (.convert t t' x) ty fr (Ai .i64 a) :=
  .of fun o ho hty w Z F ρ _ hf => by
    obtain ⟨⟨b, h1, h2⟩, h3⟩ := hf (by simp [Op.operands]) hx
    have := run_convert_float_int (P := P) w t t' .f64 .i64 b a (by rw [hs]; rfl) hd (rd_toInt h2 h3.1 h3.2)
    exact ⟨.int .i64 a, by simp [execOp, ho, h1, this, Sem.run_bind], rfl⟩
theorem dI2F {a : Int} {u : TypeDesc} (hs : P.underlying t = some u) (hd : P.underlying t' = some (.float .f64)) (h : sml a) (hx : arg fr x = some (Ai .i64 a)) : D P n H (.convert t t' x) ty fr (.fl a) :=
  .of fun o ho hty w Z F ρ _ hf => by
    have h1 : ρ x = _ := hf (by simp [Op.operands]) hx
    have := run_convert_int_float (P := P) (w := w) t t' .i64 .f64 a (by rw [hs]; rfl) hd
    exact ⟨_, by simp [execOp, ho, h1, this, Sem.run_bind]; rfl, ⟨_, rfl, rd_int h.1 h.2⟩, h⟩
theorem dMulC {z v : Int × Int} (h : cmulOk z v) (hx : arg fr x = some (.cx z)) (hy : arg fr y = some (.cx v)) : D P n H (.binOp .mul t x y t') ty fr (.cx (cmul z v)) :=
  .of fun o ho hty w Z F ρ _ hf => by
    obtain ⟨⟨a, b, e1, h1, h2⟩, _, _⟩ := hf (by simp [Op.operands]) hx
    obtain ⟨⟨c, d, e2, h3, h4⟩, _, _⟩ := hf (by simp [Op.operands]) hy
    obtain ⟨p1, p2, p3, p4, p5, p6⟩ := h
    obtain ⟨ac, q1, r1⟩ := rd_mul h1 h3 p1.1 p1.2
    obtain ⟨bd, q2, r2⟩ := rd_mul h2 h4 p2.1 p2.2
    obtain ⟨re, q3, r3⟩ := rd_sub r1 r2 p3.1 p3.2
    obtain ⟨ad, q4, r4⟩ := rd_mul h1 h4 p4.1 p4.2
    obtain ⟨bc, q5, r5⟩ := rd_mul h2 h3 p5.1 p5.2
    obtain ⟨im, q6, r6⟩ := rd_add r4 r5 p6.1 p6.2
    have hm : cMulBits a b c d = some (re, im) := by simp [cMulBits, q1, q2, q3, q4, q5, q6]
    have := run_complex_mul (P := P) w t a b c d re im hm
    exact ⟨_, by simp [execOp, ho, e1, e2, eqGuard_mul, eqGuard_add, this, Sem.run_bind], ⟨_, _, rfl, r3, r6⟩, p3, p6⟩
theorem dAddC {z v : Int × Int} (h : caddOk z v) (hx : arg fr x = some (.cx z)) (hy : arg fr y = some (.cx v)) : D P n H (.binOp .add t x y t') ty fr (.cx (cadd z v)) :=
  .of fun o ho hty w Z F ρ _ hf => by
    obtain ⟨⟨a, b, e1, h1, h2⟩, _, _⟩ := hf (by simp [Op.operands]) hx
    obtain ⟨⟨c, d, e2, h3, h4⟩, _, _⟩ := hf (by simp [Op.operands]) hy
    obtain ⟨p1, p2⟩ := h
    obtain ⟨re, q1, r1⟩ := rd_add h1 h3 p1.1 p1.2
    obtain ⟨im, q2, r2⟩ := rd_add h2 h4 p2.1 p2.2
    have hm : cSumBits .add .f64 a b c d = some (re, im) := by simp [cSumBits, q1, q2]
    have := run_complex_sum (P := P) w .add (.inl rfl) t .f64 a b c d re im hm
    exact ⟨_, by simp [execOp, ho, e1, e2, eqGuard_mul, eqGuard_add, this, Sem.run_bind], ⟨_, _, rfl, r1, r2⟩, p1, p2⟩

/-! ### Arrays of one-cell elements, as values -/
theorem dBuildA {zs : List Value} {az cs : List AV} {ps : Array (Nat × Operand)} {m sz : Nat} (ht : P.underlying t = some (.array m e)) (hs : SizeIs P e sz) (hz : ∀ w, (zeroValue t).run P w = .ok (.agg zs.toArray) w)
    (ha : ∀ Z w, AllP Z w az zs) (hp : Parts fr (fun i => some (i * sz, sz)) az ps.toList cs) : D P n H (.build t ps) ty fr (.agg cs) :=
  .of fun o ho hty w Z F ρ _ hf => by
    obtain ⟨us, h1, h2⟩ := fill_parts hp (ρ := ρ) (Z := Z) (w := w) (fun {x a} hmem hx => hf (by simp [Op.operands]; simpa using hmem) hx) zs (ha Z w)
    refine ⟨.agg us.toArray, ?_, us, rfl, h2⟩
    have h1'' : Instr.fill (fun i => some (i * sz, sz)) zs.toArray (Array.map (fun x => match x with | (i, x) => (i, ρ x)) ps).toList = some us.toArray := by
      have hps : (ps.map fun p => (p.1, ρ p.2)).toList = ps.toList.map fun p => (p.1, ρ p.2) := by simp
      rw [← hps] at h1
      exact h1
    simp only [execOp, ho, Instr.build, Sem.run_bind, hz w, Result.andThen_ok, Sem.run_pure, run_underlying ht, hs w, Value.cells]
    simp only [h1'', Sem.run_pure, Result.andThen_ok]
theorem dIxA {k kd : IntKind} {i : Int} {m : Nat} (xs : List Int) (ht : P.underlying t = some (.array m e)) (hs : SizeIs P e 1) (hg : IsAgg P e false) (hm : xs.length = m) (hx : arg fr x = some (.agg (xs.map fun a => Ai k a))) (hy : arg fr y = some (Ai kd i)) (h0 : 0 ≤ i) (h1 : i < xs.length) : D P n H (.index t x y) ty fr (Ai k (rd xs i)) :=
  .of fun o ho hty w Z F ρ _ hf => by
    obtain ⟨vs, e1, hv⟩ := hf (by simp [Op.operands]) hx
    have e2 : ρ y = _ := hf (by simp [Op.operands]) hy
    have hg2 : (xs.map fun a => Ai k a)[i.toNat]? = some (Ai k (rd xs i)) := by rw [List.getElem?_map, rd_get h0 h1]; rfl
    obtain ⟨v, hv1, hv2⟩ := hv.get hg2
    have hv3 : v = .int k (rd xs i) := hv2
    subst hv3
    have hp := part_one (P := P) (w := w) hg hv1
    have h1' : i < (m : Int) := by omega
    exact ⟨_, by simp [execOp, ho, e1, e2, Instr.index, run_underlying ht, Sem.run_bind, asIntOf, h0, h1', hs w, hp], rfl⟩
end

/-! ### Structs that are held against one another -/
section
variable {P : Program} {w : World}
theorem eqF_step {d : Nat} {xs ys : Array Value} {f : Field} {fs : List Field} {a b : Value} {r : Bool} (hn : f.name ≠ "_") (hx : (part f.type xs f.offset).run P w = .ok a w) (hy : (part f.type ys f.offset).run P w = .ok b w) (he : (Op.equalIn d f.type a b).run P w = .ok r w) :
    (Op.eqFields d xs ys (f :: fs)).run P w = if r = true then (Op.eqFields d xs ys fs).run P w else .ok false w := by
  simp only [Op.eqFields, if_pos hn, Sem.run_bind, hx, hy, he, Result.andThen_ok, Sem.run_ite, Sem.run_pure]
  cases r <;> simp
theorem eqF_int {d : Nat} {xs ys : List Value} {f : Field} {fs : List Field} {k k' : IntKind} {a b : Int} (hn : f.name ≠ "_") (hg : IsAgg P f.type false) (ht : P.underlying f.type = some (.int k')) (hx : xs[f.offset]? = some (.int k a)) (hy : ys[f.offset]? = some (.int k b)) :
    (Op.eqFields (d + 1) xs.toArray ys.toArray (f :: fs)).run P w = if a = b then (Op.eqFields (d + 1) xs.toArray ys.toArray fs).run P w else .ok false w := by
  rw [eqF_step hn (part_one hg hx) (part_one hg hy) (run_equalIn_int w d _ _ _ _ _ ht)]
  simp
theorem eqF_bool {d : Nat} {xs ys : List Value} {f : Field} {fs : List Field} {a b : Bool} (hn : f.name ≠ "_") (hg : IsAgg P f.type false) (ht : P.underlying f.type = some .bool) (hx : xs[f.offset]? = some (.bool a)) (hy : ys[f.offset]? = some (.bool b)) :
    (Op.eqFields (d + 1) xs.toArray ys.toArray (f :: fs)).run P w = if a = b then (Op.eqFields (d + 1) xs.toArray ys.toArray fs).run P w else .ok false w := by
  rw [eqF_step hn (part_one hg hx) (part_one hg hy) (run_equalIn_bool' w d _ _ _ ht)]
  simp
theorem eqF_str {d : Nat} {xs ys : List Value} {f : Field} {fs : List Field} {a b : ByteArray} (hn : f.name ≠ "_") (hg : IsAgg P f.type false) (ht : P.underlying f.type = some .string) (hx : xs[f.offset]? = some (.string a)) (hy : ys[f.offset]? = some (.string b)) :
    (Op.eqFields (d + 1) xs.toArray ys.toArray (f :: fs)).run P w = if a = b then (Op.eqFields (d + 1) xs.toArray ys.toArray fs).run P w else .ok false w := by
  rw [eqF_step hn (part_one hg hx) (part_one hg hy) (run_equalIn_string w d _ _ _ ht), bytes_beq']
  simp
theorem eqF_agg {d k : Nat} {xs ys : List Value} {f : Field} {fs : List Field} {us vs : List Value} {p : Prop} [Decidable p] (hn : f.name ≠ "_") (hg : IsAgg P f.type true) (hs : SizeIs P f.type k) (hx : (xs.drop f.offset).take k = us) (hy : (ys.drop f.offset).take k = vs) (he : (Op.equalIn d f.type (.agg us.toArray) (.agg vs.toArray)).run P w = .ok (decide p) w) :
    (Op.eqFields d xs.toArray ys.toArray (f :: fs)).run P w = if p then (Op.eqFields d xs.toArray ys.toArray fs).run P w else .ok false w := by
  subst hx hy
  rw [eqF_step hn (part_agg hg hs) (part_agg hg hs) he]
  simp
theorem eqF_nil {d : Nat} {xs ys : Array Value} : (Op.eqFields d xs ys []).run P w = .ok (decide True) w := by simp [Op.eqFields]
theorem ok_ite {p : Prop} [Decidable p] {q : Prop} [Decidable q] : (if p then (Result.ok (decide q) w : Result Bool) else .ok false w) = .ok (decide (p ∧ q)) w := by
  by_cases hp : p <;> simp [hp]

theorem allp_lits {Z : Nat → Prop} : ∀ {vs us : List Value}, AllP Z w (vs.map AV.lit) us → us = vs
  | [], _, .nil => rfl
  | v :: vs, _, .cons h hs => by rw [show _ = v from h, allp_lits hs]

variable {n : Nat} {fr : Fr} {H : List Res} {t t' ty : TypeId} {a b : Operand}
theorem dEqSt {T : Type} [DecidableEq T] {c : Co T} {x y : T} (vs : T → List Value) (hm : P.eqGuardType P.depth t = false) (hv : ∀ x, c.e x = (vs x).map AV.lit) (he : ∀ w x y, (Op.equalIn 10000 t (.agg (vs x).toArray) (.agg (vs y).toArray)).run P w = .ok (decide (x = y)) w) (hx : arg fr a = some (.agg (c.e x))) (hy : arg fr b = some (.agg (c.e y))) : D P n H (.binOp .eql t a b t') ty fr (Ab (decide (x = y))) :=
  .of fun o ho hty w Z F ρ _ hf => by
    obtain ⟨us, e1, h1⟩ := hf (by simp [Op.operands]) hx
    obtain ⟨ws, e2, h2⟩ := hf (by simp [Op.operands]) hy
    rw [hv] at h1 h2
    have := allp_lits h1
    subst this
    have := allp_lits h2
    subst this
    exact ⟨.bool (decide (x = y)), by simp only [execOp, ho, e1, e2, Sem.run_bind, run_eqGuard_agg w _ _ _ _ _ _ hm, Result.andThen_ok, run_eql_struct, he, Sem.run_pure], rfl⟩
theorem dNeSt {T : Type} [DecidableEq T] {c : Co T} {x y : T} (vs : T → List Value) (hm : P.eqGuardType P.depth t = false) (hv : ∀ x, c.e x = (vs x).map AV.lit) (he : ∀ w x y, (Op.equalIn 10000 t (.agg (vs x).toArray) (.agg (vs y).toArray)).run P w = .ok (decide (x = y)) w) (hx : arg fr a = some (.agg (c.e x))) (hy : arg fr b = some (.agg (c.e y))) : D P n H (.binOp .neq t a b t') ty fr (Ab (decide (x ≠ y))) :=
  .of fun o ho hty w Z F ρ _ hf => by
    obtain ⟨us, e1, h1⟩ := hf (by simp [Op.operands]) hx
    obtain ⟨ws, e2, h2⟩ := hf (by simp [Op.operands]) hy
    rw [hv] at h1 h2
    have := allp_lits h1
    subst this
    have := allp_lits h2
    subst this
    refine ⟨.bool (!decide (x = y)), by simp only [execOp, ho, e1, e2, Sem.run_bind, run_eqGuard_agg w _ _ _ _ _ _ hm, Result.andThen_ok, run_neq_struct, he, Sem.run_pure], ?_⟩
    show Value.bool _ = _
    rw [decide_not]
end
end S
end Go.Proofs.Ytpjhcllohagjoaa
