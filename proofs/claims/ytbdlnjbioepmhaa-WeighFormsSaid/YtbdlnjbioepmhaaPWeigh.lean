/-
  What package weigh computes, in plain Lean: turns, trees, sums of products. Own work; no claim stands here.
-/
import Derived.Test.YtbdlnjbioepmhaaFF
import Derived.Test.YtbdlnjbioepmhaaPA
namespace Go.Proofs.Ytbdlnjbioepmhaa
open S
set_option linter.unusedVariables false
set_option linter.unusedSimpArgs false
set_option maxRecDepth 100000

/-- A power of i. -/
def tG (k : Int) : Gauss := if k % 4 = 0 then ⟨1, 0⟩ else if k % 4 = 1 then ⟨0, 1⟩ else if k % 4 = 2 then ⟨-1, 0⟩ else ⟨0, -1⟩
def pr (z : Gauss) : Int × Int := (z.Re, z.Im)

theorem tG_mod (k : Int) : tG (k % 4) = tG k := by unfold tG; rw [Int.emod_emod_of_dvd _ (by decide)]
theorem mod4 (k : Int) : k % 4 = 0 ∨ k % 4 = 1 ∨ k % 4 = 2 ∨ k % 4 = 3 := by omega

theorem turn_spec (k : Int) (K : Nat) (hK : 5 ≤ K) : weigh_turn K k = some (pr (tG k)) := by
  obtain ⟨m, rfl⟩ : ∃ m, K = m + 5 := ⟨K - 5, by omega⟩
  have hr : (IntKind.wrap .i64 (k.tmod 4 + 4)).tmod 4 = k % 4 := by
    have h0 : -4 < k.tmod 4 ∧ k.tmod 4 < 4 := by
      have := Int.lt_tmod_of_pos k (show (0 : Int) < 4 by decide)
      have := Int.tmod_lt_of_pos k (show (0 : Int) < 4 by decide)
      omega
    rw [wr (by omega) (by omega), Int.tmod_eq_emod_of_nonneg (by omega)]
    have := Int.tmod_add_mul_tdiv k 4
    omega
  have w1 : IntKind.wrap .i64 1 = 1 := by decide
  have w2 : IntKind.wrap .i64 2 = 2 := by decide
  have v2 : IntKind.wrap .i64 (1 + 1) = 2 := by decide
  have w3 : IntKind.wrap .i64 3 = 3 := by decide
  have v3 : IntKind.wrap .i64 (2 + 1) = 3 := by decide
  have w4 : IntKind.wrap .i64 4 = 4 := by decide
  have v4 : IntKind.wrap .i64 (3 + 1) = 4 := by decide
  unfold weigh_turn
  simp only [weigh_turn.l0, hr, Int.zero_add, w1, v2, v3, v4]
  unfold tG pr
  rcases mod4 k with h | h | h | h <;> simp [h]

theorem Turn_spec (k : Int) (K : Nat) (hK : 5 ≤ K) : weigh_Turn K k = some (tG k) := by
  unfold weigh_Turn
  rw [turn_spec k K hK]
  simp [weigh_whole, pr]

def tNo (z : Gauss) : Int × Bool := if z = ⟨1, 0⟩ then (0, true) else if z = ⟨0, 1⟩ then (1, true) else if z = ⟨-1, 0⟩ then (2, true) else if z = ⟨0, -1⟩ then (3, true) else (0, false)
theorem Turns_spec (z : Gauss) (K : Nat) (hK : 5 ≤ K) : weigh_Turns K z = some (tNo z) := by
  have hT : ∀ k, weigh_Turn K k = some (tG k) := fun k => Turn_spec k K hK
  unfold weigh_Turns
  obtain ⟨m, hm⟩ : ∃ m, K = m + 5 := ⟨K - 5, by omega⟩
  have h : weigh_Turns.l0 K z K 0 = weigh_Turns.l0 K z (m + 5) 0 := by rw [← hm]
  rw [h]
  have w1 : IntKind.wrap .i64 1 = 1 := by decide
  have w2 : IntKind.wrap .i64 2 = 2 := by decide
  have v2 : IntKind.wrap .i64 (1 + 1) = 2 := by decide
  have w3 : IntKind.wrap .i64 3 = 3 := by decide
  have v3 : IntKind.wrap .i64 (2 + 1) = 3 := by decide
  have w4 : IntKind.wrap .i64 4 = 4 := by decide
  have v4 : IntKind.wrap .i64 (3 + 1) = 4 := by decide
  simp only [weigh_Turns.l0, hT, Option.bind_some, Int.zero_add, w1, w2, w3, w4, v2, v3, v4]
  unfold tG tNo
  simp only [show (0 : Int) % 4 = 0 from rfl, show (1 : Int) % 4 = 1 from rfl, show (2 : Int) % 4 = 2 from rfl, show (3 : Int) % 4 = 3 from rfl]
  by_cases h0 : z = ⟨1, 0⟩
  · subst h0; simp [brk]
  by_cases h1 : z = ⟨0, 1⟩
  · subst h1; simp [brk]
  by_cases h2 : z = ⟨-1, 0⟩
  · subst h2; simp [brk]
  by_cases h3 : z = ⟨0, -1⟩
  · subst h3; simp [brk]
  have h0' : ¬ (⟨1, 0⟩ : Gauss) = z := fun e => h0 e.symm
  have h1' : ¬ (⟨0, 1⟩ : Gauss) = z := fun e => h1 e.symm
  have h2' : ¬ (⟨-1, 0⟩ : Gauss) = z := fun e => h2 e.symm
  have h3' : ¬ (⟨0, -1⟩ : Gauss) = z := fun e => h3 e.symm
  simp [brk, h0, h1, h2, h3, h0', h1', h2', h3']

theorem tNo_tG (k : Int) : tNo (tG k) = (k % 4, true) := by
  unfold tG
  rcases mod4 k with h | h | h | h <;> simp [h, tNo]
theorem tNo_zero {z : Gauss} (h : (tNo z).2 = true) : z = tG (tNo z).1 := by
  unfold tNo at *
  by_cases h0 : z = ⟨1, 0⟩
  · subst h0; decide
  by_cases h1 : z = ⟨0, 1⟩
  · subst h1; decide
  by_cases h2 : z = ⟨-1, 0⟩
  · subst h2; decide
  by_cases h3 : z = ⟨0, -1⟩
  · subst h3; decide
  simp [h0, h1, h2, h3] at h

theorem tG_mul (j k : Int) : cmul (pr (tG j)) (pr (tG k)) = pr (tG (j + k)) := by
  unfold tG pr cmul
  rcases mod4 j with h | h | h | h <;> rcases mod4 k with h' | h' | h' | h' <;>
    (simp only [h, h']
     first
       | rw [if_pos (show (j + k) % 4 = 0 by omega)]; simp
       | rw [if_neg (show ¬ (j + k) % 4 = 0 by omega), if_pos (show (j + k) % 4 = 1 by omega)]; simp
       | rw [if_neg (show ¬ (j + k) % 4 = 0 by omega), if_neg (show ¬ (j + k) % 4 = 1 by omega), if_pos (show (j + k) % 4 = 2 by omega)]; simp
       | rw [if_neg (show ¬ (j + k) % 4 = 0 by omega), if_neg (show ¬ (j + k) % 4 = 1 by omega), if_neg (show ¬ (j + k) % 4 = 2 by omega)]; simp)
theorem tG_small (k : Int) : (-1 ≤ (tG k).Re ∧ (tG k).Re ≤ 1) ∧ -1 ≤ (tG k).Im ∧ (tG k).Im ≤ 1 := by
  unfold tG
  rcases mod4 k with h | h | h | h <;> simp [h]

/-- Both parts are of a thousand at most. -/
def Sm (z : Gauss) : Prop := (-1000 ≤ z.Re ∧ z.Re ≤ 1000) ∧ -1000 ≤ z.Im ∧ z.Im ≤ 1000

theorem mul_b {x y : Int} {a b : Nat} (hx : x.natAbs ≤ a) (hy : y.natAbs ≤ b) : (x * y).natAbs ≤ a * b := by
  rw [Int.natAbs_mul]; exact Nat.mul_le_mul hx hy
theorem cmul_b {z w : Int × Int} {a b : Nat} (h1 : z.1.natAbs ≤ a) (h2 : z.2.natAbs ≤ a) (h3 : w.1.natAbs ≤ b) (h4 : w.2.natAbs ≤ b) : (cmul z w).1.natAbs ≤ 2 * (a * b) ∧ (cmul z w).2.natAbs ≤ 2 * (a * b) := by
  have e1 := mul_b h1 h3
  have e2 := mul_b h2 h4
  have e3 := mul_b h1 h4
  have e4 := mul_b h2 h3
  unfold cmul
  generalize z.1 * w.1 = p at *
  generalize z.2 * w.2 = q at *
  generalize z.1 * w.2 = r at *
  generalize z.2 * w.1 = s at *
  generalize a * b = ab at *
  simp only; omega
theorem cmulOk_b {z w : Int × Int} {a b : Nat} (h1 : z.1.natAbs ≤ a) (h2 : z.2.natAbs ≤ a) (h3 : w.1.natAbs ≤ b) (h4 : w.2.natAbs ≤ b) (hab : a * b ≤ 1000000000) : cmulOk z w := by
  have e1 := mul_b h1 h3
  have e2 := mul_b h2 h4
  have e3 := mul_b h1 h4
  have e4 := mul_b h2 h3
  unfold cmulOk sml
  generalize z.1 * w.1 = p at *
  generalize z.2 * w.2 = q at *
  generalize z.1 * w.2 = r at *
  generalize z.2 * w.1 = s at *
  generalize a * b = ab at *
  omega

/-! ### Trees -/
/-- How many turns a branch makes. -/
def ex (ks : List Int) (b : Branch) : Int := if b.Rule < ks.length then rd ks b.Rule else 0
def exs (ks : List Int) (bs : List Branch) : Int := (bs.map (ex ks)).sum
def TreeOk (bs : List Branch) : Prop := bs.length ≤ 4096 ∧ ∀ b ∈ bs, 0 ≤ b.Rule

theorem Tree_spec (bs : List Branch) (ks : List Int) (K : Nat) (hK : 5 ≤ K) (hK' : 4096 < K) : (¬ TreeOk bs ∧ weigh_Tree K bs ks = some (⟨0, 0⟩, 2300)) ∨ (TreeOk bs ∧ weigh_Tree K bs ks = some (tG (exs ks bs), 0)) := by
  unfold weigh_Tree
  by_cases hl : 4096 < (bs.length : Int)
  · rw [if_pos hl]
    exact .inl ⟨fun h => by have := h.1; omega, rfl⟩
  rw [if_neg hl]
  obtain ⟨r, hr, hq⟩ := rounds (L := weigh_Tree.l0 K bs ks) (fun s => ∃ t : Nat, s.2 = t ∧ t ≤ bs.length ∧ s.1 = pr (tG (exs ks (bs.take t))) ∧ ∀ b ∈ bs.take t, 0 ≤ b.Rule) (fun s => bs.length - s.2.toNat)
    (fun r => match r with | .inl s => s.1 = pr (tG (exs ks bs)) ∧ (∀ b ∈ bs, 0 ≤ b.Rule) | .inr c => c = (⟨0, 0⟩, 2300) ∧ ¬ ∀ b ∈ bs, 0 ≤ b.Rule) (fun s m hI => by
      obtain ⟨z, t'⟩ := s
      obtain ⟨t, rfl, ht, hz, hb⟩ := hI
      simp only at hz hb
      subst hz
      simp only [weigh_Tree.l0]
      by_cases hlt : (t : Int) < bs.length
      · have hlt' : t < bs.length := by omega
        have hm := rd_mem (xs := bs) (Int.natCast_nonneg t) hlt
        have hg := rd_get (xs := bs) (Int.natCast_nonneg t) hlt
        rw [Int.toNat_natCast] at hg
        rw [if_pos hlt, if_pos (Int.natCast_nonneg t)]
        generalize rd bs (t : Int) = e at hm hg
        by_cases h0 : e.Rule < 0
        · rw [if_pos h0]
          exact .inl ⟨.inr (⟨0, 0⟩, 2300), rfl, rfl, fun h => by have := h e hm; omega⟩
        · have htake : bs.take (t + 1) = bs.take t ++ [e] := by rw [List.take_add_one, hg]; rfl
          have hb' : ∀ b ∈ bs.take (t + 1), 0 ≤ b.Rule := by
            intro b hb1
            rw [htake, List.mem_append] at hb1
            rcases hb1 with h | h
            · exact hb b h
            · simp at h; subst h; omega
          have hex : exs ks (bs.take (t + 1)) = exs ks (bs.take t) + ex ks e := by
            rw [htake]; simp [exs]
          rw [if_neg h0, wr (a := (t : Int) + 1) (by omega) (by omega)]
          by_cases h1 : e.Rule < ks.length
          · rw [if_pos h1, if_pos (by omega), if_pos h1, turn_spec _ K hK]
            simp only [Option.bind_some]
            have s1 := tG_small (exs ks (bs.take t))
            have s2 := tG_small (rd ks e.Rule)
            rw [if_pos (cmulOk_b (a := 1) (b := 1) (by unfold pr; omega) (by unfold pr; omega) (by unfold pr; omega) (by unfold pr; omega) (by decide)), tG_mul]
            refine .inr ⟨_, ⟨t + 1, by simp, hlt', ?_, hb'⟩, by simp only; omega, rfl⟩
            simp only
            rw [hex]; unfold ex; rw [if_pos h1]
          · rw [if_neg h1]
            refine .inr ⟨_, ⟨t + 1, by simp, hlt', ?_, hb'⟩, by simp only; omega, rfl⟩
            simp only
            rw [hex]; unfold ex; rw [if_neg h1, Int.add_zero]
      · rw [if_neg hlt]
        have : t = bs.length := by omega
        subst this
        rw [List.take_length] at hb
        exact .inl ⟨.inl (pr (tG (exs ks (bs.take bs.length))), (bs.length : Int)), rfl, by simp, hb⟩) K (((1, 0) : Int × Int), 0) ⟨0, rfl, Nat.zero_le _, by simp [exs, tG, pr], by simp⟩ (by simp only [Int.toNat_zero]; omega)
  rw [hr]
  cases r with
  | inl s =>
    obtain ⟨z, t⟩ := s
    obtain ⟨rfl, h2⟩ := hq
    exact .inr ⟨⟨by omega, h2⟩, by simp [brk, weigh_whole, pr]⟩
  | inr c =>
    obtain ⟨rfl, h2⟩ := hq
    exact .inl ⟨fun h => h2 h.2, by simp [brk]⟩

/-! ### Sums of products -/
def dsum (a b : List Gauss) : Nat → Int × Int
  | 0 => (0, 0)
  | n + 1 => cadd (dsum a b n) (cmul (pr (rd a (n : Int))) (pr (rd b (n : Int))))
def DotOk (a b : List Gauss) : Prop := a.length = b.length ∧ a.length ≤ 100 ∧ (∀ z ∈ a, Sm z) ∧ ∀ z ∈ b, Sm z
def gz (z : Int × Int) : Gauss := ⟨z.1, z.2⟩

theorem small_spec (zs : List Gauss) (hl : zs.length ≤ 100) (K : Nat) (hK : 100 < K) : ∃ b, weigh_small K zs = some b ∧ (b = true ↔ ∀ z ∈ zs, Sm z) := by
  have inner : ∀ t : Nat, t < zs.length → ∃ r, weigh_small.l1 K zs t K 0 = some r ∧ ((∃ s, r = .inl s ∧ Sm (rd zs (t : Int))) ∨ (r = .inr (.inr false) ∧ ¬ Sm (rd zs (t : Int)))) := by
    intro t ht
    obtain ⟨m, hm⟩ : ∃ m, K = m + 3 := ⟨K - 3, by omega⟩
    have h : weigh_small.l1 K zs t K 0 = weigh_small.l1 K zs t (m + 3) 0 := by rw [← hm]
    rw [h]
    have w1 : IntKind.wrap .i64 1 = 1 := by decide
    have w2 : IntKind.wrap .i64 2 = 2 := by decide
    have v2 : IntKind.wrap .i64 (1 + 1) = 2 := by decide
    simp only [weigh_small.l1, Int.zero_add, w1, w2, v2, List.length_cons, List.length_nil]
    generalize rd zs (t : Int) = z
    have e0 : rd [z.Re, z.Im] 0 = z.Re := rfl
    have e1 : rd [z.Re, z.Im] 1 = z.Im := rfl
    simp only [e0, e1]
    unfold Sm
    by_cases h1 : z.Re < -1000
    · exact ⟨.inr (.inr false), by simp [h1], .inr ⟨rfl, by omega⟩⟩
    by_cases h2 : 1000 < z.Re
    · exact ⟨.inr (.inr false), by simp [h1, h2], .inr ⟨rfl, by omega⟩⟩
    by_cases h3 : z.Im < -1000
    · exact ⟨.inr (.inr false), by simp [h1, h2, h3], .inr ⟨rfl, by omega⟩⟩
    by_cases h4 : 1000 < z.Im
    · exact ⟨.inr (.inr false), by simp [h1, h2, h3, h4], .inr ⟨rfl, by omega⟩⟩
    exact ⟨.inl 2, by simp [h1, h2, h3, h4], .inl ⟨2, rfl, by omega⟩⟩
  unfold weigh_small
  obtain ⟨r, hr, hq⟩ := rounds (L := weigh_small.l0 K zs) (fun s => ∃ t : Nat, s = t ∧ t ≤ zs.length ∧ ∀ z ∈ zs.take t, Sm z) (fun s => zs.length - s.toNat)
    (fun r => match r with | .inl _ => ∀ z ∈ zs, Sm z | .inr c => c = false ∧ ¬ ∀ z ∈ zs, Sm z) (fun s m hI => by
      obtain ⟨t, rfl, ht, hz⟩ := hI
      simp only [weigh_small.l0]
      by_cases hlt : (t : Int) < zs.length
      · have hlt' : t < zs.length := by omega
        have hm := rd_mem (xs := zs) (Int.natCast_nonneg t) hlt
        have hg := rd_get (xs := zs) (Int.natCast_nonneg t) hlt
        rw [Int.toNat_natCast] at hg
        rw [if_pos hlt, if_pos (Int.natCast_nonneg t), wr (a := (t : Int) + 1) (by omega) (by omega)]
        obtain ⟨r, h1, ⟨s, rfl, h2⟩ | ⟨rfl, h2⟩⟩ := inner t hlt'
        · rw [h1]
          refine .inr ⟨((t : Int) + 1), ⟨t + 1, by simp, hlt', fun z hz1 => ?_⟩, by omega, rfl⟩
          rw [List.take_add_one, hg, List.mem_append] at hz1
          rcases hz1 with h | h
          · exact hz z h
          · simp at h; subst h; exact h2
        · rw [h1]
          exact .inl ⟨.inr false, rfl, rfl, fun h => h2 (h _ hm)⟩
      · rw [if_neg hlt]
        have : t = zs.length := by omega
        subst this
        rw [List.take_length] at hz
        exact .inl ⟨.inl (zs.length : Int), rfl, hz⟩) K 0 ⟨0, rfl, Nat.zero_le _, by simp⟩ (by simp only [Int.toNat_zero]; omega)
  rw [hr]
  cases r with
  | inl s => exact ⟨true, by simp [brk], by simp only [true_iff]; exact hq⟩
  | inr c => obtain ⟨rfl, h2⟩ := hq; exact ⟨false, by simp [brk], by simp only [Bool.false_eq_true, false_iff]; exact h2⟩

theorem dsum_b (a b : List Gauss) (ha : ∀ z ∈ a, Sm z) (hb : ∀ z ∈ b, Sm z) (n : Nat) (h1 : n ≤ a.length) (h2 : n ≤ b.length) : (dsum a b n).1.natAbs ≤ 2000000 * n ∧ (dsum a b n).2.natAbs ≤ 2000000 * n := by
  induction n with
  | zero => simp [dsum]
  | succ n ih =>
    obtain ⟨i1, i2⟩ := ih (by omega) (by omega)
    have s1 := ha _ (rd_mem (i := (n : Int)) (Int.natCast_nonneg n) (by omega))
    have s2 := hb _ (rd_mem (i := (n : Int)) (Int.natCast_nonneg n) (by omega))
    unfold Sm at s1 s2
    obtain ⟨c1, c2⟩ := cmul_b (z := pr (rd a (n : Int))) (w := pr (rd b (n : Int))) (a := 1000) (b := 1000) (by unfold pr; omega) (by unfold pr; omega) (by unfold pr; omega) (by unfold pr; omega)
    simp only [dsum, cadd]
    omega

theorem Dot_spec (a b : List Gauss) (K : Nat) (hK : 100 < K) : (¬ DotOk a b ∧ weigh_Dot K a b = some (⟨0, 0⟩, 2300)) ∨ (DotOk a b ∧ weigh_Dot K a b = some (gz (dsum a b a.length), 0)) := by
  unfold weigh_Dot
  by_cases h0 : (a.length : Int) ≠ b.length
  · rw [if_pos h0]; exact .inl ⟨fun h => h0 (by rw [h.1]), rfl⟩
  rw [if_neg h0]
  by_cases h1 : 100 < (a.length : Int)
  · rw [if_pos h1]; exact .inl ⟨fun h => by have := h.2.1; omega, rfl⟩
  rw [if_neg h1]
  have hlen : a.length = b.length := by omega
  obtain ⟨x, hx, hx'⟩ := small_spec a (by omega) K hK
  obtain ⟨y, hy, hy'⟩ := small_spec b (by omega) K hK
  rw [hx]
  simp only [Option.bind_some]
  cases x with
  | false => exact .inl ⟨fun h => Bool.noConfusion (hx'.2 h.2.2.1), by simp⟩
  | true =>
    rw [hy]
    simp only [Option.bind_some, Bool.not_true, Bool.false_eq_true, if_false]
    cases y with
    | false => exact .inl ⟨fun h => Bool.noConfusion (hy'.2 h.2.2.2), by simp⟩
    | true =>
      simp only [Bool.not_true, Bool.false_eq_true, if_false]
      have ha := hx'.1 rfl
      have hb := hy'.1 rfl
      obtain ⟨r, hr, hq⟩ := rounds (L := weigh_Dot.l0 K a b) (fun s => ∃ t : Nat, s.2 = t ∧ t ≤ a.length ∧ s.1 = dsum a b t) (fun s => a.length - s.2.toNat) (fun r => r.1 = dsum a b a.length) (fun s m hI => by
        obtain ⟨z, t'⟩ := s
        obtain ⟨t, rfl, ht, hz⟩ := hI
        simp only at hz
        subst hz
        simp only [weigh_Dot.l0]
        by_cases hlt : (t : Int) < a.length
        · have s1 := ha _ (rd_mem (i := (t : Int)) (Int.natCast_nonneg t) hlt)
          have s2 := hb _ (rd_mem (i := (t : Int)) (Int.natCast_nonneg t) (by omega))
          have hd := dsum_b a b ha hb t (by omega) (by omega)
          have hn : ∀ z, Sm z → weigh_number K z = some (pr z) := by
            intro z hz
            unfold Sm at hz
            unfold weigh_number
            rw [if_pos (by unfold sml; omega), if_pos (by unfold sml; omega)]
            rfl
          rw [if_pos hlt, if_pos (Int.natCast_nonneg t), hn _ s1, hn _ s2]
          simp only [Option.bind_some]
          unfold Sm at s1 s2
          obtain ⟨c1, c2⟩ := cmul_b (z := pr (rd a (t : Int))) (w := pr (rd b (t : Int))) (a := 1000) (b := 1000) (by unfold pr; omega) (by unfold pr; omega) (by unfold pr; omega) (by unfold pr; omega)
          rw [if_pos (by omega), if_pos (cmulOk_b (a := 1000) (b := 1000) (by unfold pr; omega) (by unfold pr; omega) (by unfold pr; omega) (by unfold pr; omega) (by decide)), if_pos (by unfold caddOk sml; omega), wr (a := (t : Int) + 1) (by omega) (by omega)]
          exact .inr ⟨_, ⟨t + 1, by simp, by omega, rfl⟩, by simp only; omega, rfl⟩
        · rw [if_neg hlt]
          have : t = a.length := by omega
          subst this
          exact .inl ⟨_, rfl, rfl⟩) K (((0, 0) : Int × Int), 0) ⟨0, rfl, Nat.zero_le _, rfl⟩ (by simp only [Int.toNat_zero]; omega)
      obtain ⟨z, t⟩ := r
      simp only at hq
      subst hq
      rw [hr]
      exact .inr ⟨⟨hlen, by omega, ha, hb⟩, by simp [weigh_whole, gz]⟩
end Go.Proofs.Ytbdlnjbioepmhaa
