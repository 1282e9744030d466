/-
  The laws of chapter 23, in plain Lean: WeighRules, WeighTrees, WeighGreat, WeighTurns, WeighTurned. Own work; no claim stands here.
-/
import Derived.Test.YtbdlnjbioepmhaaPWeigh
import Derived.Test.YtbdlnjbioepmhaaF5
namespace Go.Proofs.Ytbdlnjbioepmhaa
open S
set_option linter.unusedVariables false
set_option linter.unusedSimpArgs false
set_option maxRecDepth 100000

theorem awake23 : templelaw23_awake 5000 = some true := by
  unfold templelaw23_awake
  have a1 := Turns_spec ⟨0, -1⟩ 5000 (by decide)
  have a2 := Turns_spec ⟨2, 0⟩ 5000 (by decide)
  have a3 : weigh_Tree 5000 ([(⟨(0 : Int), 1, (0 : Int), (0 : Int), (0 : Int)⟩ : Branch), (⟨(0 : Int), 7, (0 : Int), (0 : Int), (0 : Int)⟩ : Branch), (⟨(0 : Int), 1, (0 : Int), (0 : Int), (0 : Int)⟩ : Branch)] : List Branch) ([0, 1] : List Int) = some (⟨-1, 0⟩, 0) := by decide +kernel
  have a4 : weigh_Dot 5000 ([(⟨1, 2⟩ : Gauss)] : List Gauss) ([(⟨3, (-1)⟩ : Gauss)] : List Gauss) = some (⟨5, 5⟩, 0) := by decide +kernel
  have a5 : weigh_Dot 5000 [] (List.replicate (1 : Int).toNat (zGauss : Gauss)) = some (⟨0, 0⟩, 2300) := by decide +kernel
  have a6 := Turn_spec (-1) 5000 (by decide)
  simp only [a1, a2, a3, a4, a5, a6, Option.bind_some, templelaw0_Num]
  decide

/-- A part of a list: what stands at its i-th place. -/
theorem rd_sl {xs : List Gauss} {c m : Int} (h0 : 0 ≤ c) (hm : m = xs.length) (i : Nat) (h : i < (sl xs c m).length) : rd (sl xs c m) (i : Int) = rd xs (c + i) := by
  unfold sl at *
  subst hm
  have e : (xs.length : Int).toNat = xs.length := by omega
  rw [e, List.take_length] at *
  simp only [rd, Int.toNat_natCast, List.getD_eq_getElem?_getD, List.getElem?_drop]
  rw [show (c + (i : Int)).toNat = c.toNat + i by omega]
theorem rd_sl0 {xs : List Gauss} {c : Int} (i : Nat) (h : i < c.toNat) : rd (sl xs 0 c) (i : Int) = rd xs (i : Int) := by
  unfold sl
  simp only [rd, Int.toNat_natCast, List.getD_eq_getElem?_getD, Int.toNat_zero, List.drop_zero, List.getElem?_take, h, if_true]

theorem dsum_cong {a b c d : List Gauss} (n : Nat) (h1 : ∀ i : Nat, i < n → rd a (i : Int) = rd c (i : Int)) (h2 : ∀ i : Nat, i < n → rd b (i : Int) = rd d (i : Int)) : dsum a b n = dsum c d n := by
  induction n with
  | zero => rfl
  | succ n ih => simp only [dsum, ih (fun i hi => h1 i (by omega)) (fun i hi => h2 i (by omega)), h1 n (by omega), h2 n (by omega)]
theorem cadd_assoc (a b c : Int × Int) : cadd (cadd a b) c = cadd a (cadd b c) := by simp [cadd, Int.add_assoc]
theorem cmul_comm (a b : Int × Int) : cmul a b = cmul b a := by
  unfold cmul
  rw [Int.mul_comm a.1 b.1, Int.mul_comm a.2 b.2, Int.mul_comm a.1 b.2, Int.mul_comm a.2 b.1, Int.add_comm (b.2 * a.1)]
theorem dsum_split {a b c d : List Gauss} (k n : Nat) (h1 : ∀ i : Nat, i < n → rd c (i : Int) = rd a ((k : Int) + i)) (h2 : ∀ i : Nat, i < n → rd d (i : Int) = rd b ((k : Int) + i)) : dsum a b (k + n) = cadd (dsum a b k) (dsum c d n) := by
  induction n with
  | zero => simp [dsum, cadd]
  | succ n ih =>
    have := ih (fun i hi => h1 i (by omega)) (fun i hi => h2 i (by omega))
    rw [show k + (n + 1) = (k + n) + 1 by omega]
    simp only [dsum, this, h1 n (by omega), h2 n (by omega), Int.natCast_add, cadd_assoc]
theorem dsum_comm (a b : List Gauss) (n : Nat) : dsum a b n = dsum b a n := by
  induction n with
  | zero => rfl
  | succ n ih => simp only [dsum, ih, cmul_comm (pr (rd a (n : Int)))]

theorem cut_eq (cut : Int) (n : Nat) (hn : n < 9007199254740992) : ∃ c : Nat, c ≤ n ∧ IntKind.wrap .i64 (Int.tmod (IntKind.wrap .u64 cut) (IntKind.wrap .u64 (IntKind.wrap .i64 ((n : Int) + 1)))) = c ∧ IntKind.wrap .u64 (IntKind.wrap .i64 ((n : Int) + 1)) ≠ 0 := by
  rw [wr (a := (n : Int) + 1) (by omega) (by omega), wu (a := (n : Int) + 1) (by omega) (by omega)]
  have h0 : 0 ≤ IntKind.wrap .u64 cut := by rw [wrap_u64]; omega
  rw [Int.tmod_eq_emod_of_nonneg h0]
  have h1 := Int.emod_nonneg (IntKind.wrap .u64 cut) (show (n : Int) + 1 ≠ 0 by omega)
  have h2 := Int.emod_lt_of_pos (IntKind.wrap .u64 cut) (show (0 : Int) < (n : Int) + 1 by omega)
  rw [wr (by omega) (by omega)]
  exact ⟨(IntKind.wrap .u64 cut % ((n : Int) + 1)).toNat, by omega, by omega, by omega⟩

theorem Sm_sl {xs : List Gauss} (h : ∀ z ∈ xs, Sm z) (a b : Int) : ∀ z ∈ sl xs a b, Sm z := fun z hz => h z (List.mem_of_mem_take (List.mem_of_mem_drop hz))

theorem Sm_tG (k : Int) : Sm (tG k) := by have := tG_small k; unfold Sm; omega
theorem tG_eta (k : Int) : (⟨(tG k).Re, (tG k).Im⟩ : Gauss) = tG k := rfl
theorem dot_turns (j k : Int) (K : Nat) (hK : 100 < K) : weigh_Dot K [tG j] [tG k] = some (tG (j + k), 0) := by
  rcases Dot_spec [tG j] [tG k] K hK with ⟨h, _⟩ | ⟨_, h⟩
  · exact absurd ⟨rfl, by simp, by simp [Sm_tG], by simp [Sm_tG]⟩ h
  · rw [h]
    have : gz (dsum [tG j] [tG k] 1) = tG (j + k) := by
      have e : dsum [tG j] [tG k] 1 = pr (tG (j + k)) := by
        rw [← tG_mul]
        simp [dsum, cadd, rd]
      rw [e]; rfl
    show some (gz (dsum [tG j] [tG k] 1), (0 : Int)) = _
    rw [this]

theorem WeighRules_true (j k : Int) (a b : List Gauss) (cut : Int) : templelaw23_WeighRules 5000 j k a b cut = some true := by
  unfold templelaw23_WeighRules
  rw [awake23]
  simp only [Option.bind_some, Bool.not_true, Bool.false_eq_true, if_false]
  simp only [Turn_spec _ 5000 (by decide), Option.bind_some, dot_turns _ _ 5000 (by decide), templelaw0_Num, tG_eta, Turns_spec _ 5000 (by decide), tNo_tG]
  have e1 : iand .i64 (IntKind.wrap .i64 (iand .i64 j 3 + iand .i64 k 3)) 3 = (j + k) % 4 := by
    rw [and3 j, and3 k, wr (by omega) (by omega), and3]; omega
  have e2 : tG (iand .i64 j 3) = tG j := by rw [and3, tG_mod]
  rw [if_neg (by decide), if_neg (by decide), e1, if_neg (by simp), e2, if_neg (by simp)]
  rcases Dot_spec a b 5000 (by decide) with ⟨h, h1⟩ | ⟨⟨h2, h3, h4, h5⟩, h1⟩
  · rw [h1]; simp
  · rw [h1]
    simp only [Option.bind_some]
    obtain ⟨c, c1, c2, c3⟩ := cut_eq cut a.length (by omega)
    rw [if_neg (by decide), if_pos c3, c2, if_pos (by omega), if_pos (by omega), if_pos (by omega)]
    have l1 : (sl a 0 (c : Int)).length = c := by unfold sl; simp; omega
    have l2 : (sl b 0 (c : Int)).length = c := by unfold sl; simp; omega
    have l3 : (sl b (c : Int) (b.length : Int)).length = b.length - c := by unfold sl; simp
    have l4 : (sl a (c : Int) (a.length : Int)).length = a.length - c := by unfold sl; simp
    rcases Dot_spec (sl a 0 (c : Int)) (sl b 0 (c : Int)) 5000 (by decide) with ⟨h, _⟩ | ⟨_, k1⟩
    · exact absurd ⟨by omega, by omega, Sm_sl h4 _ _, Sm_sl h5 _ _⟩ h
    rcases Dot_spec (sl b (c : Int) (b.length : Int)) (sl a (c : Int) (a.length : Int)) 5000 (by decide) with ⟨h, _⟩ | ⟨_, k2⟩
    · exact absurd ⟨by omega, by omega, Sm_sl h5 _ _, Sm_sl h4 _ _⟩ h
    rw [k1, k2]
    simp only [Option.bind_some]
    rw [l1, l3]
    have hs : dsum a b a.length = cadd (dsum (sl a 0 (c : Int)) (sl b 0 (c : Int)) c) (dsum (sl b (c : Int) (b.length : Int)) (sl a (c : Int) (a.length : Int)) (b.length - c)) := by
      rw [dsum_comm (sl b (c : Int) (b.length : Int)), dsum_cong (c := a) (d := b) c (fun i hi => rd_sl0 i (by omega)) (fun i hi => rd_sl0 i (by omega)), ← dsum_split c (b.length - c) (fun i hi => rd_sl (by omega) rfl i (by omega)) (fun i hi => rd_sl (by omega) rfl i (by omega))]
      congr 1; omega
    rw [hs]
    have b1 := dsum_b _ _ (Sm_sl h4 0 (c : Int)) (Sm_sl h5 0 (c : Int)) c (by omega) (by omega)
    have b2 := dsum_b _ _ (Sm_sl h5 (c : Int) (b.length : Int)) (Sm_sl h4 (c : Int) (a.length : Int)) (b.length - c) (by omega) (by omega)
    simp only [gz, cadd]
    generalize dsum (sl a 0 (c : Int)) (sl b 0 (c : Int)) c = p at *
    generalize dsum (sl b (c : Int) (b.length : Int)) (sl a (c : Int) (a.length : Int)) (b.length - c) = q at *
    have w1 : IntKind.wrap .i64 (p.1 + q.1) = p.1 + q.1 := wr (by omega) (by omega)
    have w2 : IntKind.wrap .i64 (p.2 + q.2) = p.2 + q.2 := wr (by omega) (by omega)
    simp [w1, w2]

theorem exs_split (ks : List Int) (bs : List Branch) (c : Nat) : exs ks bs = exs ks (bs.take c) + exs ks (bs.drop c) := by
  unfold exs
  rw [← List.sum_append, ← List.map_append, List.take_append_drop]

theorem WeighTrees_true (bs : List Branch) (ks : List Int) (cut : Int) : templelaw23_WeighTrees 5000 bs ks cut = some true := by
  unfold templelaw23_WeighTrees
  rw [awake23]
  simp only [Option.bind_some, Bool.not_true, Bool.false_eq_true, if_false, templelaw0_Num]
  rcases Tree_spec bs ks 5000 (by decide) (by decide) with ⟨h, h1⟩ | ⟨⟨h2, h3⟩, h1⟩
  · rw [h1]; simp
  · rw [h1]
    simp only [Option.bind_some]
    obtain ⟨c, c1, c2, c3⟩ := cut_eq cut bs.length (by omega)
    have e1 : sl bs 0 (c : Int) = bs.take c := by simp [sl]
    have e2 : sl bs (c : Int) (bs.length : Int) = bs.drop c := by simp [sl]
    rw [if_neg (by decide), if_pos c3, c2, if_pos (by omega), if_pos (by omega), e1, e2]
    rcases Tree_spec (bs.take c) ks 5000 (by decide) (by decide) with ⟨h, _⟩ | ⟨_, k1⟩
    · exact absurd ⟨by simp; omega, fun b hb => h3 b (List.mem_of_mem_take hb)⟩ h
    rcases Tree_spec (bs.drop c) ks 5000 (by decide) (by decide) with ⟨h, _⟩ | ⟨_, k2⟩
    · exact absurd ⟨by simp; omega, fun b hb => h3 b (List.mem_of_mem_drop hb)⟩ h
    rw [k1, k2]
    simp only [Option.bind_some, tG_eta, dot_turns _ _ 5000 (by decide), Turns_spec _ 5000 (by decide), tNo_tG]
    rw [← exs_split]
    simp

theorem WeighTurns_true (k : Int) (z : Gauss) : templelaw23_WeighTurns 5000 k z = some true := by
  unfold templelaw23_WeighTurns
  rw [awake23]
  have hT : weigh_Tree 5000 ([(⟨(0 : Int), (0 : Int), (0 : Int), (0 : Int), (0 : Int)⟩ : Branch), (⟨(0 : Int), (0 : Int), (0 : Int), (0 : Int), (0 : Int)⟩ : Branch), (⟨(0 : Int), (0 : Int), (0 : Int), (0 : Int), (0 : Int)⟩ : Branch), (⟨(0 : Int), (0 : Int), (0 : Int), (0 : Int), (0 : Int)⟩ : Branch)] : List Branch) ([k] : List Int) = some (⟨1, 0⟩, 0) := by
    rcases Tree_spec ([(⟨(0 : Int), (0 : Int), (0 : Int), (0 : Int), (0 : Int)⟩ : Branch), (⟨(0 : Int), (0 : Int), (0 : Int), (0 : Int), (0 : Int)⟩ : Branch), (⟨(0 : Int), (0 : Int), (0 : Int), (0 : Int), (0 : Int)⟩ : Branch), (⟨(0 : Int), (0 : Int), (0 : Int), (0 : Int), (0 : Int)⟩ : Branch)] : List Branch) ([k] : List Int) 5000 (by decide) (by decide) with ⟨h, _⟩ | ⟨_, h⟩
    · exact absurd ⟨by decide, by simp⟩ h
    · rw [h]
      have : tG (exs ([k] : List Int) ([(⟨(0 : Int), (0 : Int), (0 : Int), (0 : Int), (0 : Int)⟩ : Branch), (⟨(0 : Int), (0 : Int), (0 : Int), (0 : Int), (0 : Int)⟩ : Branch), (⟨(0 : Int), (0 : Int), (0 : Int), (0 : Int), (0 : Int)⟩ : Branch), (⟨(0 : Int), (0 : Int), (0 : Int), (0 : Int), (0 : Int)⟩ : Branch)] : List Branch)) = ⟨1, 0⟩ := by
        have : exs ([k] : List Int) ([(⟨(0 : Int), (0 : Int), (0 : Int), (0 : Int), (0 : Int)⟩ : Branch), (⟨(0 : Int), (0 : Int), (0 : Int), (0 : Int), (0 : Int)⟩ : Branch), (⟨(0 : Int), (0 : Int), (0 : Int), (0 : Int), (0 : Int)⟩ : Branch), (⟨(0 : Int), (0 : Int), (0 : Int), (0 : Int), (0 : Int)⟩ : Branch)] : List Branch) = 4 * k := by
          simp [exs, ex, rd]; omega
        rw [this]
        unfold tG
        rw [if_pos (by omega)]
      rw [this]
  simp only [Option.bind_some, Bool.not_true, Bool.false_eq_true, if_false, templelaw0_Num, Turns_spec _ 5000 (by decide), Turn_spec _ 5000 (by decide), hT, tNo_tG, and3]
  obtain ⟨re, im⟩ := z
  simp only
  by_cases h0 : re = 1 ∧ im = 0
  · obtain ⟨rfl, rfl⟩ := h0; simp [tNo, tG, brk]
  by_cases h1 : re = 0 ∧ im = 1
  · obtain ⟨rfl, rfl⟩ := h1; simp [tNo, tG, brk]
  by_cases h2 : re = -1 ∧ im = 0
  · obtain ⟨rfl, rfl⟩ := h2; simp [tNo, tG, brk]
  by_cases h3 : re = 0 ∧ im = -1
  · obtain ⟨rfl, rfl⟩ := h3; simp [tNo, tG, brk]
  have hno : tNo ⟨re, im⟩ = (0, false) := by
    unfold tNo
    simp only [Gauss.mk.injEq, h0, h1, h2, h3, if_false]
  rw [hno]
  by_cases a0 : re = 0
  · subst a0
    have b1 : ¬ im = 1 := fun h => h1 ⟨rfl, h⟩
    have b2 : ¬ im = -1 := fun h => h3 ⟨rfl, h⟩
    by_cases b3 : im = 0
    · subst b3; simp [brk]
    · simp [brk, b1, b2, b3]
  · by_cases b3 : im = 0
    · subst b3
      have c1 : ¬ re = 1 := fun h => h0 ⟨h, rfl⟩
      have c2 : ¬ re = -1 := fun h => h2 ⟨h, rfl⟩
      simp [brk, a0, c1, c2]
    · simp [brk, a0, b3]

theorem WeighRules_holds (j k : Int) (a b : List Gauss) (cut : Int) : ∃ K, templelaw23_WeighRules K j k a b cut = some true := ⟨5000, WeighRules_true j k a b cut⟩
theorem WeighTrees_holds (bs : List Branch) (ks : List Int) (cut : Int) : ∃ K, templelaw23_WeighTrees K bs ks cut = some true := ⟨5000, WeighTrees_true bs ks cut⟩
theorem WeighTurns_holds (k : Int) (z : Gauss) : ∃ K, templelaw23_WeighTurns K k z = some true := ⟨5000, WeighTurns_true k z⟩
end Go.Proofs.Ytbdlnjbioepmhaa
