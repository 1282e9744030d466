/-
  The laws of chapter 23, in plain Lean, the third text: Weighs. Own work; no claim stands here.
-/
import Derived.Test.YtbdlnjbioepmhaaPLaw23b
namespace Go.Proofs.Ytbdlnjbioepmhaa
open S
set_option linter.unusedVariables false
set_option linter.unusedSimpArgs false
set_option maxRecDepth 100000

theorem awake23' (K : Nat) (hK : 5000 ≤ K) : templelaw23_awake K = some true := by
  unfold templelaw23_awake
  have a1 := Turns_spec ⟨0, -1⟩ K (by omega)
  have a2 := Turns_spec ⟨2, 0⟩ K (by omega)
  have a3 : weigh_Tree K ([(⟨(0 : Int), 1, (0 : Int), (0 : Int), (0 : Int)⟩ : Branch), (⟨(0 : Int), 7, (0 : Int), (0 : Int), (0 : Int)⟩ : Branch), (⟨(0 : Int), 1, (0 : Int), (0 : Int), (0 : Int)⟩ : Branch)] : List Branch) ([0, 1] : List Int) = some (⟨-1, 0⟩, 0) := by
    rcases Tree_spec ([(⟨(0 : Int), 1, (0 : Int), (0 : Int), (0 : Int)⟩ : Branch), (⟨(0 : Int), 7, (0 : Int), (0 : Int), (0 : Int)⟩ : Branch), (⟨(0 : Int), 1, (0 : Int), (0 : Int), (0 : Int)⟩ : Branch)] : List Branch) ([0, 1] : List Int) K (by omega) (by omega) with ⟨h, _⟩ | ⟨_, h⟩
    · exact absurd ⟨by decide, by simp⟩ h
    · rw [h]; decide
  have a4 : weigh_Dot K ([(⟨1, 2⟩ : Gauss)] : List Gauss) ([(⟨3, (-1)⟩ : Gauss)] : List Gauss) = some (⟨5, 5⟩, 0) := by
    rcases Dot_spec ([(⟨1, 2⟩ : Gauss)] : List Gauss) ([(⟨3, (-1)⟩ : Gauss)] : List Gauss) K (by omega) with ⟨h, _⟩ | ⟨_, h⟩
    · exact absurd ⟨rfl, by decide, by simp [Sm], by simp [Sm]⟩ h
    · rw [h]; decide
  have a5 : weigh_Dot K [] (List.replicate (1 : Int).toNat (zGauss : Gauss)) = some (⟨0, 0⟩, 2300) := by
    rcases Dot_spec [] (List.replicate (1 : Int).toNat (zGauss : Gauss)) K (by omega) with ⟨_, h⟩ | ⟨h, _⟩
    · exact h
    · exact absurd h.1 (by decide)
  have a6 := Turn_spec (-1) K (by omega)
  simp only [a1, a2, a3, a4, a5, a6, Option.bind_some, templelaw0_Num]
  decide

theorem rd_ext' {T : Type} [Inhabited T] {xs ys : List T} (hl : xs.length = ys.length) (h : ∀ i : Nat, i < xs.length → rd xs (i : Int) = rd ys (i : Int)) : xs = ys := by
  apply List.ext_getElem hl
  intro i h1 h2
  have := h i h1
  simpa [rd, List.getD_eq_getElem?_getD, h1, h2] using this

theorem same_loop {T : Type} [Inhabited T] [DecidableEq T] (a : List T) (L : Nat → Int → Option (Int ⊕ Bool)) (hL : ∀ m i, L (m + 1) i = if i < (a.length : Int) then if 0 ≤ i then if i < (a.length : Int) then if (rd a i) ≠ (rd a i) then some (.inr false) else L m (IntKind.wrap .i64 (i + 1)) else none else none else some (.inl i)) (hl : a.length < 9223372036854775807) (K : Nat) (hK : a.length < K) : ∃ i, L K 0 = some (.inl i) := by
  obtain ⟨r, hr, hq⟩ := rounds (L := L) (fun s => ∃ t : Nat, s = t ∧ t ≤ a.length) (fun s => a.length - s.toNat) (fun r => ∃ i, r = .inl i) (fun s m hI => by
    obtain ⟨t, rfl, ht⟩ := hI
    rw [hL]
    by_cases hlt : (t : Int) < a.length
    · rw [if_pos hlt, if_pos (Int.natCast_nonneg t), if_pos hlt, if_neg (by simp), wr (a := (t : Int) + 1) (by omega) (by omega)]
      exact .inr ⟨(t : Int) + 1, ⟨t + 1, by simp, by omega⟩, by omega, rfl⟩
    · rw [if_neg hlt]; exact .inl ⟨_, rfl, _, rfl⟩) K 0 ⟨0, rfl, Nat.zero_le _⟩ (by simpa using hK)
  obtain ⟨i, rfl⟩ := hq
  exact ⟨i, hr⟩

theorem SameB (a : List Branch) (hl : a.length < 9223372036854775807) (K : Nat) (hK : a.length < K) : templelaw0_SameBranchs K a a = some true := by
  unfold templelaw0_SameBranchs
  obtain ⟨i, h⟩ := same_loop a (templelaw0_SameBranchs.l0 K a a) (fun m i => rfl) hl K hK
  rw [if_neg (by simp), h]; rfl
theorem SameI (a : List Int) (hl : a.length < 9223372036854775807) (K : Nat) (hK : a.length < K) : templelaw0_SameInts K a a = some true := by
  unfold templelaw0_SameInts
  obtain ⟨i, h⟩ := same_loop a (templelaw0_SameInts.l0 K a a) (fun m i => rfl) hl K hK
  rw [if_neg (by simp), h]; rfl
theorem SameG (a : List Gauss) (hl : a.length < 9223372036854775807) (K : Nat) (hK : a.length < K) : templelaw0_SameGausss K a a = some true := by
  unfold templelaw0_SameGausss
  obtain ⟨i, h⟩ := same_loop a (templelaw0_SameGausss.l0 K a a) (fun m i => rfl) hl K hK
  rw [if_neg (by simp), h]; rfl

theorem lnt_app {T : Type} (a m : List T) : lnt (a ++ m, (a.length : Int)) = a := by unfold lnt; simp
theorem rd_app0 {T : Type} [Inhabited T] (a : List T) (x y : T) : rd (sl (a ++ [x, y]) 0 ((a.length : Int) + 2)) (a.length : Int) = x ∧ rd (sl (a ++ [x, y]) 0 ((a.length : Int) + 2)) ((a.length : Int) + 1) = y ∧ (sl (a ++ [x, y]) 0 ((a.length : Int) + 2)).length = a.length + 2 := by
  have e : sl (a ++ [x, y]) 0 ((a.length : Int) + 2) = a ++ [x, y] := by
    unfold sl
    rw [show ((a.length : Int) + 2).toNat = a.length + 2 by omega, List.take_of_length_le (by simp)]
    simp
  rw [e]
  refine ⟨?_, ?_, by simp⟩
  · simp [rd, List.getD_eq_getElem?_getD]
  · rw [show ((a.length : Int) + 1) = ((a.length + 1 : Nat) : Int) by simp]
    simp [rd, List.getD_eq_getElem?_getD]

theorem KeptB (a : List Branch) (hl : a.length < 9223372036854775800) (K : Nat) (hK : a.length < K) : templelaw0_KeptBranchs K (a ++ ([(⟨77777, (0 : Int), (0 : Int), (0 : Int), (0 : Int)⟩ : Branch), (⟨77777, (0 : Int), (0 : Int), (0 : Int), (0 : Int)⟩ : Branch)] : List Branch), (a.length : Int)) a = some true := by
  unfold templelaw0_KeptBranchs
  obtain ⟨h1, h2, h3⟩ := rd_app0 a (⟨77777, 0, 0, 0, 0⟩ : Branch) (⟨77777, 0, 0, 0, 0⟩ : Branch)
  simp only [lnt_app, SameB a (by omega) K hK, Option.bind_some]
  have w1 : IntKind.wrap .i64 ((a.length : Int) + 2) = (a.length : Int) + 2 := wr (by omega) (by omega)
  have w2 : IntKind.wrap .i64 ((a.length : Int) + 1) = (a.length : Int) + 1 := wr (by omega) (by omega)
  rw [w1, w2]
  rw [if_pos (by omega), if_pos (by simp), if_pos trivial, if_pos (by omega), if_pos h1, if_pos (by omega), if_pos (by omega)]
  simp [h2]
theorem KeptG (a : List Gauss) (hl : a.length < 9223372036854775800) (K : Nat) (hK : a.length < K) : templelaw0_KeptGausss K (a ++ ([(⟨77777, (0 : Int)⟩ : Gauss), (⟨77777, (0 : Int)⟩ : Gauss)] : List Gauss), (a.length : Int)) a = some true := by
  unfold templelaw0_KeptGausss
  obtain ⟨h1, h2, h3⟩ := rd_app0 a (⟨77777, 0⟩ : Gauss) (⟨77777, 0⟩ : Gauss)
  simp only [lnt_app, SameG a (by omega) K hK, Option.bind_some]
  have w1 : IntKind.wrap .i64 ((a.length : Int) + 2) = (a.length : Int) + 2 := wr (by omega) (by omega)
  have w2 : IntKind.wrap .i64 ((a.length : Int) + 1) = (a.length : Int) + 1 := wr (by omega) (by omega)
  rw [w1, w2]
  rw [if_pos (by omega), if_pos (by simp), if_pos trivial, if_pos (by omega), if_pos h1, if_pos (by omega), if_pos (by omega)]
  simp [h2]
theorem KeptI (a : List Int) (hl : a.length < 9223372036854775800) (K : Nat) (hK : a.length < K) : templelaw0_KeptInts K (a ++ ([(-7777), (-8888)] : List Int), (a.length : Int)) a = some true := by
  unfold templelaw0_KeptInts
  obtain ⟨h1, h2, h3⟩ := rd_app0 a (-7777 : Int) (-8888)
  simp only [lnt_app, SameI a (by omega) K hK, Option.bind_some]
  have w1 : IntKind.wrap .i64 ((a.length : Int) + 2) = (a.length : Int) + 2 := wr (by omega) (by omega)
  have w2 : IntKind.wrap .i64 ((a.length : Int) + 1) = (a.length : Int) + 1 := wr (by omega) (by omega)
  rw [w1, w2]
  rw [if_pos (by omega), if_pos (by simp), if_pos trivial, if_pos (by omega), if_pos h1, if_pos (by omega), if_pos (by omega)]
  simp [h2]

theorem refTurn_spec (k : Int) (K : Nat) : templeref18_Turn K k = some (tG k) := by
  unfold templeref18_Turn
  rw [and3]
  unfold tG
  rcases mod4 k with h | h | h | h <;> simp [h, brk]

theorem refTurns_spec (z : Gauss) (K : Nat) (hK : 5 ≤ K) : templeref18_Turns K z = some (tNo z) := by
  unfold templeref18_Turns
  obtain ⟨m, hm⟩ : ∃ m, K = m + 5 := ⟨K - 5, by omega⟩
  have h : templeref18_Turns.l0 K z K 0 = templeref18_Turns.l0 K z (m + 5) 0 := by rw [← hm]
  rw [h]
  have w1 : IntKind.wrap .i64 1 = 1 := by decide
  have v2 : IntKind.wrap .i64 (1 + 1) = 2 := by decide
  have v3 : IntKind.wrap .i64 (2 + 1) = 3 := by decide
  have v4 : IntKind.wrap .i64 (3 + 1) = 4 := by decide
  simp only [templeref18_Turns.l0, refTurn_spec, Option.bind_some, Int.zero_add, w1, v2, v3, v4]
  unfold tG tNo
  simp only [show (0 : Int) % 4 = 0 from rfl, show (1 : Int) % 4 = 1 from rfl, show (2 : Int) % 4 = 2 from rfl, show (3 : Int) % 4 = 3 from rfl]
  by_cases h0 : z = ⟨1, 0⟩
  · subst h0; simp [brk]
  by_cases h1 : z = ⟨0, 1⟩
  · subst h1; simp [brk]
  by_cases h2 : z = ⟨-1, 0⟩
  · subst h2; simp [brk]
  by_cases h3 : z = ⟨0, -1⟩
  · subst h3; simp [brk]
  simp [brk, h0, h1, h2, h3]

theorem Weight_spec (bs : List Branch) (ks : List Int) (K : Nat) (hK : 4096 < K) : (¬ TreeOk bs ∧ templeref18_Weight K bs ks = some (⟨0, 0⟩, 2300)) ∨ (TreeOk bs ∧ templeref18_Weight K bs ks = some (tG (exs ks bs), 0)) := by
  unfold templeref18_Weight
  by_cases hl : 4096 < (bs.length : Int)
  · rw [if_pos hl]
    exact .inl ⟨fun h => by have := h.1; omega, rfl⟩
  rw [if_neg hl]
  obtain ⟨r, hr, hq⟩ := rounds (L := templeref18_Weight.l0 K bs ks) (fun s => ∃ t : Nat, s.2 = t ∧ t ≤ bs.length ∧ s.1 = exs ks (bs.take t) % 4 ∧ ∀ b ∈ bs.take t, 0 ≤ b.Rule) (fun s => bs.length - s.2.toNat)
    (fun r => match r with | .inl s => s.1 = exs ks bs % 4 ∧ (∀ b ∈ bs, 0 ≤ b.Rule) | .inr c => c = (⟨0, 0⟩, 2300) ∧ ¬ ∀ b ∈ bs, 0 ≤ b.Rule) (fun s m hI => by
      obtain ⟨z, t'⟩ := s
      obtain ⟨t, rfl, ht, hz, hb⟩ := hI
      simp only at hz hb
      subst hz
      simp only [templeref18_Weight.l0]
      by_cases hlt : (t : Int) < bs.length
      · have hlt' : t < bs.length := by omega
        have hm := rd_mem (xs := bs) (Int.natCast_nonneg t) hlt
        have hg := rd_get (xs := bs) (Int.natCast_nonneg t) hlt
        rw [Int.toNat_natCast] at hg
        rw [if_pos hlt, if_pos (Int.natCast_nonneg t)]
        generalize rd bs (t : Int) = e at hm hg
        by_cases h0 : e.Rule < 0
        · rw [if_pos h0]
          exact .inl ⟨.inr (⟨0, 0⟩, 2300), rfl, rfl, fun h => by have := h e hm; omega⟩
        · have htake : bs.take (t + 1) = bs.take t ++ [e] := by rw [List.take_add_one, hg]; rfl
          have hb' : ∀ b ∈ bs.take (t + 1), 0 ≤ b.Rule := by
            intro b hb1
            rw [htake, List.mem_append] at hb1
            rcases hb1 with h | h
            · exact hb b h
            · simp at h; subst h; omega
          have hex : exs ks (bs.take (t + 1)) = exs ks (bs.take t) + ex ks e := by
            rw [htake]; simp [exs]
          rw [if_neg h0, wr (a := (t : Int) + 1) (by omega) (by omega)]
          by_cases h1 : e.Rule < ks.length
          · rw [if_pos h1, if_pos (by omega), if_pos h1, and3 (rd ks e.Rule), wr (by omega) (by omega), and3]
            refine .inr ⟨_, ⟨t + 1, by simp, hlt', ?_, hb'⟩, by simp only; omega, rfl⟩
            simp only
            rw [hex]; unfold ex; rw [if_pos h1]; omega
          · rw [if_neg h1]
            refine .inr ⟨_, ⟨t + 1, by simp, hlt', ?_, hb'⟩, by simp only; omega, rfl⟩
            simp only
            rw [hex]; unfold ex; rw [if_neg h1, Int.add_zero]
      · rw [if_neg hlt]
        have : t = bs.length := by omega
        subst this
        rw [List.take_length] at hb
        exact .inl ⟨.inl (exs ks (bs.take bs.length) % 4, (bs.length : Int)), rfl, by simp, hb⟩) K (0, 0) ⟨0, rfl, Nat.zero_le _, by simp [exs], by simp⟩ (by simp only [Int.toNat_zero]; omega)
  rw [hr]
  cases r with
  | inl s =>
    obtain ⟨z, t⟩ := s
    obtain ⟨rfl, h2⟩ := hq
    exact .inr ⟨⟨by omega, h2⟩, by simp [brk, refTurn_spec, tG_mod]⟩
  | inr c =>
    obtain ⟨rfl, h2⟩ := hq
    exact .inl ⟨fun h => h2 h.2, by simp [brk]⟩

theorem rsmall (z : Gauss) (K : Nat) : ∃ b, templeref18_small K z = some b ∧ (b = true ↔ Sm z) := by
  unfold templeref18_small Sm
  by_cases h1 : -1000 ≤ z.Re
  · by_cases h2 : z.Re ≤ 1000
    · by_cases h3 : -1000 ≤ z.Im
      · exact ⟨decide (z.Im ≤ 1000), by simp [h1, h2, h3], by simp; omega⟩
      · exact ⟨false, by simp [h1, h2, h3], by simp; omega⟩
    · exact ⟨false, by simp [h1, h2], by simp; omega⟩
  · exact ⟨false, by simp [h1], by simp; omega⟩

set_option maxHeartbeats 2000000 in
theorem RDot_spec (a b : List Gauss) (K : Nat) (hK : 100 < K) : (¬ DotOk a b ∧ templeref18_Dot K a b = some (⟨0, 0⟩, 2300)) ∨ (DotOk a b ∧ templeref18_Dot K a b = some (gz (dsum a b a.length), 0)) := by
  unfold templeref18_Dot
  by_cases h0 : (a.length : Int) ≠ b.length
  · rw [if_pos h0]; exact .inl ⟨fun h => h0 (by rw [h.1]), rfl⟩
  rw [if_neg h0]
  by_cases h1 : 100 < (a.length : Int)
  · rw [if_pos h1]; exact .inl ⟨fun h => by have := h.2.1; omega, rfl⟩
  rw [if_neg h1]
  have hlen : a.length = b.length := by omega
  obtain ⟨r, hr, hq⟩ := rounds (L := templeref18_Dot.l0 K a b) (fun s => ∃ t : Nat, s.2.2 = t ∧ t ≤ a.length ∧ (s.1, s.2.1) = dsum a b t ∧ (∀ z ∈ a.take t, Sm z) ∧ (∀ z ∈ b.take t, Sm z) ∧ (dsum a b t).1.natAbs ≤ 2000000 * t ∧ (dsum a b t).2.natAbs ≤ 2000000 * t) (fun s => a.length - s.2.2.toNat)
    (fun r => match r with | .inl s => (s.1, s.2.1) = dsum a b a.length ∧ (∀ z ∈ a, Sm z) ∧ (∀ z ∈ b, Sm z) | .inr c => c = (⟨0, 0⟩, 2300) ∧ ¬ ((∀ z ∈ a, Sm z) ∧ ∀ z ∈ b, Sm z)) (fun s m hI => by
      obtain ⟨c7, c8, t'⟩ := s
      obtain ⟨t, rfl, ht, hd, ha, hb, hb1, hb2⟩ := hI
      simp only at hd ha hb
      simp only [templeref18_Dot.l0]
      by_cases hlt : (t : Int) < a.length
      · have hma := rd_mem (xs := a) (Int.natCast_nonneg t) hlt
        have hmb := rd_mem (xs := b) (Int.natCast_nonneg t) (by omega)
        have hga := rd_get (xs := a) (Int.natCast_nonneg t) hlt
        have hgb := rd_get (xs := b) (i := (t : Int)) (Int.natCast_nonneg t) (by omega)
        rw [Int.toNat_natCast] at hga hgb
        rw [if_pos hlt, if_pos (Int.natCast_nonneg t)]
        obtain ⟨x, hx, hx'⟩ := rsmall (rd a (t : Int)) K
        obtain ⟨y, hy, hy'⟩ := rsmall (rd b (t : Int)) K
        rw [hx]
        simp only [Option.bind_some]
        cases x with
        | false => exact .inl ⟨.inr (⟨0, 0⟩, 2300), by simp, rfl, fun h => Bool.noConfusion (hx'.2 (h.1 _ hma))⟩
        | true =>
          simp only [Bool.not_true, Bool.false_eq_true, if_false]
          rw [if_pos (by omega), hy]
          simp only [Option.bind_some]
          cases y with
          | false => exact .inl ⟨.inr (⟨0, 0⟩, 2300), by simp, rfl, fun h => Bool.noConfusion (hy'.2 (h.2 _ hmb))⟩
          | true =>
            have s1 := hx'.1 rfl
            have s2 := hy'.1 rfl
            have t1 := s1
            have t2 := s2
            unfold Sm at s1 s2
            have hds : dsum a b (t + 1) = cadd (dsum a b t) (cmul (pr (rd a (t : Int))) (pr (rd b (t : Int)))) := rfl
            obtain ⟨c1, c2⟩ := cmul_b (z := pr (rd a (t : Int))) (w := pr (rd b (t : Int))) (a := 1000) (b := 1000) (by unfold pr; omega) (by unfold pr; omega) (by unfold pr; omega) (by unfold pr; omega)
            have e1 := mul_b (x := (rd a (t : Int)).Re) (y := (rd b (t : Int)).Re) (a := 1000) (b := 1000) (by omega) (by omega)
            have e2 := mul_b (x := (rd a (t : Int)).Im) (y := (rd b (t : Int)).Im) (a := 1000) (b := 1000) (by omega) (by omega)
            have e3 := mul_b (x := (rd a (t : Int)).Re) (y := (rd b (t : Int)).Im) (a := 1000) (b := 1000) (by omega) (by omega)
            have e4 := mul_b (x := (rd a (t : Int)).Im) (y := (rd b (t : Int)).Re) (a := 1000) (b := 1000) (by omega) (by omega)
            have d1 : c7 = (dsum a b t).1 := congrArg Prod.fst hd
            have d2 : c8 = (dsum a b t).2 := congrArg Prod.snd hd
            have hf1 : (dsum a b (t + 1)).1 = c7 + ((rd a (t : Int)).Re * (rd b (t : Int)).Re - (rd a (t : Int)).Im * (rd b (t : Int)).Im) := by rw [hds, d1]; rfl
            have hf2 : (dsum a b (t + 1)).2 = c8 + ((rd a (t : Int)).Re * (rd b (t : Int)).Im + (rd a (t : Int)).Im * (rd b (t : Int)).Re) := by rw [hds, d2]; rfl
            clear c1 c2 s1 s2 hds hd
            generalize (rd a (t : Int)).Re * (rd b (t : Int)).Re = p at *
            generalize (rd a (t : Int)).Im * (rd b (t : Int)).Im = q at *
            generalize (rd a (t : Int)).Re * (rd b (t : Int)).Im = u at *
            generalize (rd a (t : Int)).Im * (rd b (t : Int)).Re = v at *
            obtain ⟨p0, p1⟩ : -1000000 ≤ p ∧ p ≤ 1000000 := by clear hb1 hb2 e2 e3 e4; omega
            obtain ⟨q0, q1⟩ : -1000000 ≤ q ∧ q ≤ 1000000 := by clear hb1 hb2 e1 e3 e4; omega
            obtain ⟨u0, u1⟩ : -1000000 ≤ u ∧ u ≤ 1000000 := by clear hb1 hb2 e1 e2 e4; omega
            obtain ⟨v0, v1⟩ : -1000000 ≤ v ∧ v ≤ 1000000 := by clear hb1 hb2 e1 e2 e3; omega
            clear e1 e2 e3 e4
            have b10 : -2000000 * (t : Int) ≤ c7 ∧ c7 ≤ 2000000 * t := by clear hb2; omega
            have b20 : -2000000 * (t : Int) ≤ c8 ∧ c8 ≤ 2000000 * t := by clear hb1; omega
            have n1 : (dsum a b (t + 1)).1.natAbs ≤ 2000000 * (t + 1) := by clear hb1 hb2; omega
            have n2 : (dsum a b (t + 1)).2.natAbs ≤ 2000000 * (t + 1) := by clear hb1 hb2 n1; omega
            have m1 : c7 + p - q = (dsum a b (t + 1)).1 := by clear hb1 hb2 n1 n2; omega
            have m2 : c8 + u + v = (dsum a b (t + 1)).2 := by clear hb1 hb2 n1 n2; omega
            clear hb1 hb2 hf1 hf2
            have w1 : IntKind.wrap .i64 p = p := wr (by clear n1 n2; omega) (by clear n1 n2; omega)
            have w2 : IntKind.wrap .i64 q = q := wr (by clear n1 n2; omega) (by clear n1 n2; omega)
            have w3 : IntKind.wrap .i64 u = u := wr (by clear n1 n2; omega) (by clear n1 n2; omega)
            have w4 : IntKind.wrap .i64 v = v := wr (by clear n1 n2; omega) (by clear n1 n2; omega)
            have w5 : IntKind.wrap .i64 (c7 + p) = c7 + p := wr (by clear n1 n2; omega) (by clear n1 n2; omega)
            have w6 : IntKind.wrap .i64 (c7 + p - q) = c7 + p - q := wr (by clear n1 n2; omega) (by clear n1 n2; omega)
            have w7 : IntKind.wrap .i64 (c8 + u) = c8 + u := wr (by clear n1 n2; omega) (by clear n1 n2; omega)
            have w8 : IntKind.wrap .i64 (c8 + u + v) = c8 + u + v := wr (by clear n1 n2; omega) (by clear n1 n2; omega)
            have w9 : IntKind.wrap .i64 ((t : Int) + 1) = (t : Int) + 1 := wr (by omega) (by omega)
            simp only [Bool.not_true, Bool.false_eq_true, if_false, w1, w2, w3, w4, w5, w6, w7, w8, w9]
            refine .inr ⟨(c7 + p - q, c8 + u + v, (t : Int) + 1), ⟨t + 1, by simp, by omega, ?_, ?_, ?_, n1, n2⟩, by simp only; omega, rfl⟩
            · exact Prod.ext m1 m2
            · intro z hz
              rw [List.take_add_one, hga, List.mem_append] at hz
              rcases hz with h | h
              · exact ha z h
              · simp at h; subst h; exact t1
            · intro z hz
              rw [List.take_add_one, hgb, List.mem_append] at hz
              rcases hz with h | h
              · exact hb z h
              · simp at h; subst h; exact t2
      · rw [if_neg hlt]
        have : t = a.length := by omega
        subst this
        rw [List.take_length] at ha
        rw [hlen, List.take_length] at hb
        exact .inl ⟨.inl (c7, c8, (a.length : Int)), rfl, hd, ha, hb⟩) K ((0 : Int), (0 : Int), 0) ⟨0, rfl, Nat.zero_le _, rfl, by simp, by simp, by simp [dsum], by simp [dsum]⟩ (by simp only [Int.toNat_zero]; omega)
  rw [hr]
  cases r with
  | inl s =>
    obtain ⟨c7, c8, t⟩ := s
    obtain ⟨h1, h2, h3⟩ := hq
    refine .inr ⟨⟨hlen, by omega, h2, h3⟩, ?_⟩
    simp only at h1
    rw [← h1]; simp [brk, gz]
  | inr c =>
    obtain ⟨rfl, h2⟩ := hq
    exact .inl ⟨fun h => h2 ⟨h.2.2.1, h.2.2.2⟩, by simp [brk]⟩

theorem Weighs_true (k : Int) (z : Gauss) (bs : List Branch) (ks : List Int) (a b : List Gauss) (h1 : bs.length * 40 ≤ 140737488351232) (h2 : ks.length * 8 ≤ 140737488351232) (h3 : a.length * 16 ≤ 140737488351232) (h4 : b.length * 16 ≤ 140737488351232) : ∃ K, templelaw23_Weighs K k z bs ks a b = some true := by
  refine ⟨5000 + bs.length + ks.length + a.length + b.length, ?_⟩
  generalize hK : 5000 + bs.length + ks.length + a.length + b.length = K
  unfold templelaw23_Weighs
  have L1 : templelaw0_LendBranchs K bs = some (bs ++ ([(⟨77777, (0 : Int), (0 : Int), (0 : Int), (0 : Int)⟩ : Branch), (⟨77777, (0 : Int), (0 : Int), (0 : Int), (0 : Int)⟩ : Branch)] : List Branch), (bs.length : Int)) := by
    unfold templelaw0_LendBranchs templelaw0_CopyBranchs
    rw [if_pos (by simp; omega)]
    simp only [Option.bind_some, List.nil_append]
    rw [if_pos (by simp; omega), if_pos (by simp; omega)]
  have L2 : templelaw0_LendInts K ks = some (ks ++ ([(-7777), (-8888)] : List Int), (ks.length : Int)) := by
    unfold templelaw0_LendInts templelaw0_CopyInts
    rw [if_pos (by simp; omega)]
    simp only [Option.bind_some, List.nil_append]
    rw [if_pos (by simp; omega), if_pos (by simp; omega)]
  have L3 : ∀ a : List Gauss, a.length * 16 ≤ 140737488351232 → templelaw0_LendGausss K a = some (a ++ ([(⟨77777, (0 : Int)⟩ : Gauss), (⟨77777, (0 : Int)⟩ : Gauss)] : List Gauss), (a.length : Int)) := by
    intro a ha
    unfold templelaw0_LendGausss templelaw0_CopyGausss
    rw [if_pos (by simp; omega)]
    simp only [Option.bind_some, List.nil_append]
    rw [if_pos (by simp; omega), if_pos (by simp; omega)]
  rw [L1, L2, L3 a h3, L3 b h4]
  simp only [Option.bind_some, lnt_app, Turns_spec z K (by omega), refTurns_spec z K (by omega), Turn_spec k K (by omega), refTurn_spec, KeptB bs (by omega) K (by omega), KeptI ks (by omega) K (by omega), KeptG a (by omega) K (by omega), KeptG b (by omega) K (by omega), awake23' K (by omega), templelaw0_Num]
  have eT : weigh_Tree K bs ks = templeref18_Weight K bs ks := by
    rcases Tree_spec bs ks K (by omega) (by omega) with ⟨h, e⟩ | ⟨h, e⟩ <;> rcases Weight_spec bs ks K (by omega) with ⟨h', e'⟩ | ⟨h', e'⟩ <;> first | exact absurd h' h | exact absurd h h' | rw [e, e']
  have eD : weigh_Dot K a b = templeref18_Dot K a b := by
    rcases Dot_spec a b K (by omega) with ⟨h, e⟩ | ⟨h, e⟩ <;> rcases RDot_spec a b K (by omega) with ⟨h', e'⟩ | ⟨h', e'⟩ <;> first | exact absurd h' h | exact absurd h h' | rw [e, e']
  rw [eT, eD]
  obtain ⟨x, hx⟩ : ∃ x, templeref18_Weight K bs ks = some x := by
    rcases Weight_spec bs ks K (by omega) with ⟨h', e'⟩ | ⟨h', e'⟩ <;> exact ⟨_, e'⟩
  obtain ⟨y, hy⟩ : ∃ x, templeref18_Dot K a b = some x := by
    rcases RDot_spec a b K (by omega) with ⟨h', e'⟩ | ⟨h', e'⟩ <;> exact ⟨_, e'⟩
  rw [hx, hy]
  simp
end Go.Proofs.Ytbdlnjbioepmhaa
