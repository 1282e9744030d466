/-
  The laws of chapter 23, in plain Lean, the second text: WeighGreat, WeighTurned. Own work; no claim stands here.
-/
import Derived.Test.YtbdlnjbioepmhaaPLaw23
namespace Go.Proofs.Ytbdlnjbioepmhaa
open S
set_option linter.unusedVariables false
set_option linter.unusedSimpArgs false
set_option maxRecDepth 100000

theorem dsum_rep (x y : Gauss) (k n : Nat) (h : n ≤ k) : dsum (List.replicate k x) (List.replicate k y) n = ((n : Int) * (cmul (pr x) (pr y)).1, (n : Int) * (cmul (pr x) (pr y)).2) := by
  induction n with
  | zero => simp [dsum]
  | succ n ih =>
    simp only [dsum, ih (by omega), rd_rep x (show n < k by omega), rd_rep y (show n < k by omega), cadd, Prod.mk.injEq]
    constructor <;> rw [Int.natCast_add, Int.add_mul] <;> simp

theorem WeighGreat_l0 (many : Int) (a b : Gauss) (k : Nat) (hk : IntKind.wrap .i64 (Int.tmod (IntKind.wrap .u64 many) 101) = k) (hk1 : k ≤ 100) (K m : Nat) (hm : 101 < m) :
    ∃ r, templelaw23_WeighGreat.l0 K many a b m ([], [], 0) = some r ∧ (r.1 = List.replicate k (⟨IntKind.wrap .i64 ((iand .i64 b.Re 1023) - 23), IntKind.wrap .i64 (1000 - (iand .i64 b.Im 1023))⟩ : Gauss) ∧ r.2.1 = List.replicate k (⟨IntKind.wrap .i64 (1000 - (iand .i64 a.Re 1023)), IntKind.wrap .i64 ((iand .i64 a.Im 1023) - 23)⟩ : Gauss)) := by
  refine rounds (L := templelaw23_WeighGreat.l0 K many a b) (fun s => ∃ t : Nat, s.2.2 = t ∧ t ≤ k ∧ s.1 = List.replicate t (⟨IntKind.wrap .i64 ((iand .i64 b.Re 1023) - 23), IntKind.wrap .i64 (1000 - (iand .i64 b.Im 1023))⟩ : Gauss) ∧ s.2.1 = List.replicate t (⟨IntKind.wrap .i64 (1000 - (iand .i64 a.Re 1023)), IntKind.wrap .i64 ((iand .i64 a.Im 1023) - 23)⟩ : Gauss)) (fun s => k - s.2.2.toNat) _ (fun s m hI => ?_) m _ ⟨0, rfl, Nat.zero_le _, rfl, rfl⟩ (by simp only [Int.toNat_zero]; omega)
  obtain ⟨xs, ys, t'⟩ := s
  obtain ⟨t, rfl, ht, h1, h2⟩ := hI
  simp only at h1 h2
  subst h1 h2
  simp only [templelaw23_WeighGreat.l0, hk]
  by_cases hlt : (t : Int) < k
  · rw [if_pos hlt, if_pos (by simp; omega), if_pos (by simp; omega), wr (a := (t : Int) + 1) (by omega) (by omega)]
    exact .inr ⟨_, ⟨t + 1, by simp, by omega, List.replicate_succ'.symm, List.replicate_succ'.symm⟩, by simp only; omega, rfl⟩
  · rw [if_neg hlt]
    have : t = k := by omega
    subst this
    exact .inl ⟨_, rfl, rfl, rfl⟩

theorem and1023 (x : Int) : iand .i64 x 1023 = x % 1024 := iand_mask x 10 (by decide)

theorem WeighGreat_true (many : Int) (a b : Gauss) : templelaw23_WeighGreat 5000 many a b = some true := by
  unfold templelaw23_WeighGreat
  obtain ⟨k, hk, hk1⟩ : ∃ k : Nat, IntKind.wrap .i64 (Int.tmod (IntKind.wrap .u64 many) 101) = k ∧ k ≤ 100 := by
    have h0 : 0 ≤ IntKind.wrap .u64 many := by rw [wrap_u64]; omega
    rw [Int.tmod_eq_emod_of_nonneg h0, wr (by omega) (by omega)]
    exact ⟨(IntKind.wrap .u64 many % 101).toNat, by omega, by omega⟩
  obtain ⟨⟨ys, xs, t⟩, h1, h2, h3⟩ := WeighGreat_l0 many a b k hk hk1 5000 5000 (by decide)
  simp only at h2 h3
  subst h2 h3
  rw [awake23, hk]
  simp only [Option.bind_some, Bool.not_true, Bool.false_eq_true, if_false, h1, templelaw0_Num]
  rw [and1023, and1023, and1023, and1023]
  obtain ⟨p, hp, p0, p1⟩ : ∃ p, IntKind.wrap .i64 (1000 - a.Re % 1024) = p ∧ -23 ≤ p ∧ p ≤ 1000 := ⟨_, rfl, by rw [wr (by omega) (by omega)]; omega, by rw [wr (by omega) (by omega)]; omega⟩
  obtain ⟨q, hq, q0, q1⟩ : ∃ p, IntKind.wrap .i64 (a.Im % 1024 - 23) = p ∧ -23 ≤ p ∧ p ≤ 1000 := ⟨_, rfl, by rw [wr (by omega) (by omega)]; omega, by rw [wr (by omega) (by omega)]; omega⟩
  obtain ⟨r, hr, r0, r1⟩ : ∃ p, IntKind.wrap .i64 (b.Re % 1024 - 23) = p ∧ -23 ≤ p ∧ p ≤ 1000 := ⟨_, rfl, by rw [wr (by omega) (by omega)]; omega, by rw [wr (by omega) (by omega)]; omega⟩
  obtain ⟨s, hs, s0, s1⟩ : ∃ p, IntKind.wrap .i64 (1000 - b.Im % 1024) = p ∧ -23 ≤ p ∧ p ≤ 1000 := ⟨_, rfl, by rw [wr (by omega) (by omega)]; omega, by rw [wr (by omega) (by omega)]; omega⟩
  rw [hp, hq, hr, hs]
  rcases Dot_spec (List.replicate k (⟨p, q⟩ : Gauss)) (List.replicate k (⟨r, s⟩ : Gauss)) 5000 (by decide) with ⟨h, _⟩ | ⟨_, h⟩
  · refine absurd ⟨by simp, by simp; omega, fun z hz => ?_, fun z hz => ?_⟩ h
    · have := List.eq_of_mem_replicate hz; subst this; unfold Sm; simp only; omega
    · have := List.eq_of_mem_replicate hz; subst this; unfold Sm; simp only; omega
  · rw [h, List.length_replicate, dsum_rep _ _ _ _ (Nat.le_refl _)]
    simp only [Option.bind_some, gz, cmul, pr]
    have e1 := mul_b (x := p) (y := r) (a := 1000) (b := 1000) (by omega) (by omega)
    have e2 := mul_b (x := q) (y := s) (a := 1000) (b := 1000) (by omega) (by omega)
    have e3 := mul_b (x := p) (y := s) (a := 1000) (b := 1000) (by omega) (by omega)
    have e4 := mul_b (x := q) (y := r) (a := 1000) (b := 1000) (by omega) (by omega)
    have w1 : IntKind.wrap .i64 (p * r) = p * r := wr (by omega) (by omega)
    have w2 : IntKind.wrap .i64 (q * s) = q * s := wr (by omega) (by omega)
    have w3 : IntKind.wrap .i64 (p * s) = p * s := wr (by omega) (by omega)
    have w4 : IntKind.wrap .i64 (q * r) = q * r := wr (by omega) (by omega)
    have w5 : IntKind.wrap .i64 (p * r - q * s) = p * r - q * s := wr (by omega) (by omega)
    have w6 : IntKind.wrap .i64 (p * s + q * r) = p * s + q * r := wr (by omega) (by omega)
    have f1 := mul_b (x := (k : Int)) (y := p * r - q * s) (a := 100) (b := 2000000) (by omega) (by omega)
    have f2 := mul_b (x := (k : Int)) (y := p * s + q * r) (a := 100) (b := 2000000) (by omega) (by omega)
    have w7 : IntKind.wrap .i64 ((k : Int) * (p * r - q * s)) = (k : Int) * (p * r - q * s) := wr (by omega) (by omega)
    have w8 : IntKind.wrap .i64 ((k : Int) * (p * s + q * r)) = (k : Int) * (p * s + q * r) := wr (by omega) (by omega)
    simp only [w1, w2, w3, w4, w5, w6, w7, w8]
    simp

theorem times_spec (z w : Gauss) (hz : z.Re.natAbs ≤ 200000000) (hz' : z.Im.natAbs ≤ 200000000) (hw : w.Re.natAbs ≤ 1) (hw' : w.Im.natAbs ≤ 1) (K : Nat) : templelaw23_times K z w = some (gz (cmul (pr z) (pr w))) := by
  unfold templelaw23_times
  have e1 := mul_b hz hw
  have e2 := mul_b hz' hw'
  have e3 := mul_b hz hw'
  have e4 := mul_b hz' hw
  have w1 : IntKind.wrap .i64 (z.Re * w.Re) = z.Re * w.Re := wr (by omega) (by omega)
  have w2 : IntKind.wrap .i64 (z.Im * w.Im) = z.Im * w.Im := wr (by omega) (by omega)
  have w3 : IntKind.wrap .i64 (z.Re * w.Im) = z.Re * w.Im := wr (by omega) (by omega)
  have w4 : IntKind.wrap .i64 (z.Im * w.Re) = z.Im * w.Re := wr (by omega) (by omega)
  have w5 : IntKind.wrap .i64 (z.Re * w.Re - z.Im * w.Im) = z.Re * w.Re - z.Im * w.Im := wr (by omega) (by omega)
  have w6 : IntKind.wrap .i64 (z.Re * w.Im + z.Im * w.Re) = z.Re * w.Im + z.Im * w.Re := wr (by omega) (by omega)
  simp only [w1, w2, w3, w4, w5, w6]
  rfl

/-- A turned number. -/
theorem Sm_turned {z : Gauss} (h : Sm z) (k : Int) : Sm (gz (cmul (pr z) (pr (tG k)))) := by
  unfold Sm at *
  unfold tG gz cmul pr
  rcases mod4 k with h' | h' | h' | h' <;> simp [h'] <;> omega

theorem cmul_assoc (a b c : Int × Int) : cmul (cmul a b) c = cmul a (cmul b c) := by
  unfold cmul
  simp only [Prod.mk.injEq, Int.sub_mul, Int.mul_sub, Int.add_mul, Int.mul_add, Int.mul_assoc]
  constructor <;> omega
theorem cmul_cadd (a b c : Int × Int) : cmul (cadd a b) c = cadd (cmul a c) (cmul b c) := by
  unfold cmul cadd
  simp only [Prod.mk.injEq, Int.add_mul]
  constructor <;> omega
theorem pr_gz (z : Int × Int) : pr (gz z) = z := rfl

theorem Turned_l0 (a : List Gauss) (ha : ∀ z ∈ a, Sm z) (hl : a.length ≤ 100) (k : Int) (K m : Nat) (hm : 101 < m) :
    ∃ r, templelaw23_WeighTurned.l0 K a (tG k) m ([], 0) = some r ∧ (r.1.length = a.length ∧ ∀ i : Nat, i < a.length → rd r.1 (i : Int) = gz (cmul (pr (rd a (i : Int))) (pr (tG k)))) := by
  refine rounds (L := templelaw23_WeighTurned.l0 K a (tG k)) (fun s => ∃ t : Nat, s.2 = t ∧ t ≤ a.length ∧ s.1.length = t ∧ ∀ i : Nat, i < t → rd s.1 (i : Int) = gz (cmul (pr (rd a (i : Int))) (pr (tG k)))) (fun s => a.length - s.2.toNat) _ (fun s m hI => ?_) m _ ⟨0, rfl, Nat.zero_le _, rfl, by intro i h; omega⟩ (by simp only [Int.toNat_zero]; omega)
  obtain ⟨xs, t'⟩ := s
  obtain ⟨t, rfl, ht, h1, h2⟩ := hI
  simp only at h1 h2
  simp only [templelaw23_WeighTurned.l0]
  by_cases hlt : (t : Int) < a.length
  · have s1 := ha _ (rd_mem (i := (t : Int)) (Int.natCast_nonneg t) hlt)
    have s2 := tG_small k
    have hs1 := s1
    unfold Sm at s1
    rw [if_pos hlt, if_pos (Int.natCast_nonneg t), tG_eta, times_spec _ _ (by omega) (by omega) (by omega) (by omega)]
    simp only [Option.bind_some]
    rw [if_pos (by simp; omega), wr (a := (t : Int) + 1) (by omega) (by omega)]
    refine .inr ⟨_, ⟨t + 1, by simp, by omega, by simp [h1], fun i hi => ?_⟩, by simp only; omega, rfl⟩
    simp only [rd, Int.toNat_natCast, List.getD_eq_getElem?_getD] at h2 ⊢
    by_cases e : i < t
    · rw [List.getElem?_append_left (by omega)]; exact h2 i e
    · have : i = t := by omega
      subst this
      rw [List.getElem?_append_right (by omega), h1]; simp
  · rw [if_neg hlt]
    have : t = a.length := by omega
    subst this
    exact .inl ⟨_, rfl, h1, h2⟩

theorem dsum_turned (a b c : List Gauss) (t : Int × Int) (n : Nat) (h : ∀ i : Nat, i < n → rd c (i : Int) = gz (cmul (pr (rd a (i : Int))) t)) : dsum c b n = cmul (dsum a b n) t := by
  induction n with
  | zero => simp [dsum, cmul]
  | succ n ih =>
    simp only [dsum, ih (fun i hi => h i (by omega)), h n (by omega), pr_gz, cmul_cadd]
    rw [cmul_assoc, cmul_comm t, ← cmul_assoc]

theorem WeighTurned_true (a b : List Gauss) (k : Int) : templelaw23_WeighTurned 5000 a b k = some true := by
  unfold templelaw23_WeighTurned
  rw [awake23]
  simp only [Option.bind_some, Bool.not_true, Bool.false_eq_true, if_false, templelaw0_Num, Turn_spec _ 5000 (by decide)]
  rcases Dot_spec a b 5000 (by decide) with ⟨h, h1⟩ | ⟨⟨h2, h3, h4, h5⟩, h1⟩
  · rw [h1]; simp
  · rw [h1]
    simp only [Option.bind_some]
    obtain ⟨⟨c, t⟩, g1, g2, g3⟩ := Turned_l0 a h4 h3 k 5000 5000 (by decide)
    simp only at g2 g3
    rw [if_neg (by decide), g1]
    simp only [Option.bind_some]
    have hc : ∀ z ∈ c, Sm z := by
      intro z hz
      obtain ⟨i, hi⟩ := List.getElem?_of_mem hz
      have hi' : i < c.length := by
        rcases Nat.lt_or_ge i c.length with h | h
        · exact h
        · simp [h] at hi
      have := g3 i (by omega)
      have hz' : rd c (i : Int) = z := by simp [rd, List.getD_eq_getElem?_getD, hi]
      rw [← hz', this]
      exact Sm_turned (h4 _ (rd_mem (Int.natCast_nonneg i) (by omega))) k
    rcases Dot_spec c b 5000 (by decide) with ⟨h, _⟩ | ⟨_, k1⟩
    · exact absurd ⟨by omega, by omega, hc, h5⟩ h
    have d := dsum_b a b h4 h5 a.length (Nat.le_refl _) (by omega)
    have s2 := tG_small k
    rw [k1, g2, dsum_turned a b c (pr (tG k)) a.length g3]
    have ht := times_spec (gz (dsum a b a.length)) (tG k) (by simp only [gz]; omega) (by simp only [gz]; omega) (by omega) (by omega) 5000
    have eta : ∀ z : Gauss, (⟨z.Re, z.Im⟩ : Gauss) = z := fun _ => rfl
    simp only [Option.bind_some, eta, ht, pr_gz]
    simp
theorem WeighGreat_holds (many : Int) (a b : Gauss) : ∃ K, templelaw23_WeighGreat K many a b = some true := ⟨5000, WeighGreat_true many a b⟩
theorem WeighTurned_holds (a b : List Gauss) (k : Int) : ∃ K, templelaw23_WeighTurned K a b k = some true := ⟨5000, WeighTurned_true a b k⟩
end Go.Proofs.Ytbdlnjbioepmhaa
