/-
  The laws of chapter 7, in plain Lean: ComponentsRules. Own work; no claim stands here.
-/
import Derived.Test.YtmjhdhjijbmigaaPLaw7
namespace Go.Proofs.Ytmjhdhjijbmigaa
open S
set_option linter.unusedVariables false
set_option linter.unusedSimpArgs false
set_option maxRecDepth 100000

theorem Rules_l0 (names : Int) (k : Int) (hk : IntKind.wrap .i64 (1 + (iand .i64 names 15)) = k) (hk0 : 0 < k) (hk1 : k ≤ 16) (es : List Edge) (K m : Nat) (hm : 41 < m) :
    ∃ r, templelaw7_ComponentsRules.l0 K names es m ([], 0) = some r ∧ (r.1.length ≤ 40 ∧ Fit k r.1) := by
  refine rounds (L := templelaw7_ComponentsRules.l0 K names es) (fun s => ∃ t : Nat, s.2 = t ∧ t ≤ 40 ∧ s.1.length = t ∧ Fit k s.1) (fun s => 41 - s.2.toNat) _ (fun s m hI => ?_) m _ ⟨0, rfl, by omega, rfl, by intro e he; simp at he⟩ (by simp only; omega)
  obtain ⟨xs, t'⟩ := s
  obtain ⟨t, rfl, ht, hl, hf⟩ := hI
  simp only at hl hf
  simp only [templelaw7_ComponentsRules.l0, hk]
  by_cases hlt : (t : Int) < es.length
  · rw [if_pos hlt]
    by_cases h40 : (t : Int) < 40
    · rw [if_pos h40, if_pos (Int.natCast_nonneg t), wu (by omega) (by omega), if_pos (by omega), if_pos (by simp [hl]; omega), wr (a := (t : Int) + 1) (by omega) (by omega)]
      have hmod : ∀ x : Int, 0 ≤ IntKind.wrap .i64 (Int.tmod (IntKind.wrap .u64 x) k) ∧ IntKind.wrap .i64 (Int.tmod (IntKind.wrap .u64 x) k) < k := by
        intro x
        have h0 : 0 ≤ IntKind.wrap .u64 x := by rw [wrap_u64]; omega
        rw [Int.tmod_eq_emod_of_nonneg h0]
        have := Int.emod_nonneg (IntKind.wrap .u64 x) (show k ≠ 0 by omega)
        have := Int.emod_lt_of_pos (IntKind.wrap .u64 x) hk0
        rw [wr (by omega) (by omega)]
        exact ⟨by assumption, by assumption⟩
      refine .inr ⟨_, ⟨t + 1, by simp, by omega, by simp [hl], fun e he => ?_⟩, by simp only; omega, rfl⟩
      rcases List.mem_append.1 he with he | he
      · exact hf e he
      · simp at he; subst he; exact ⟨hmod _, hmod _⟩
    · rw [if_neg h40]
      exact .inl ⟨_, rfl, by simp only; omega, hf⟩
  · rw [if_neg hlt]
    exact .inl ⟨_, rfl, by simp only; omega, hf⟩

theorem Reaches_ok {n : Nat} {es : List Edge} (hn : n ≤ 64) (hf : Fit n es) (hl : es.length ≤ 60) {i j : Nat} (hi : i < n) (hj : j < n) {K : Nat} (hK : 64 < K) : ∃ b, comps_Reaches K n es i j = some b ∧ (b = true ↔ Reach es i j) := by
  obtain ⟨b, h1, h2⟩ := Reaches_spec n es i j (by omega) K hK (by omega)
  exact ⟨b, h1, h2.trans ⟨fun h => h.2.2.2, fun h => ⟨⟨by omega, by omega, hf⟩, by omega, by omega, h⟩⟩⟩

theorem Rules_l3 (names : Int) (n : Nat) (hk : IntKind.wrap .i64 (1 + (iand .i64 names 15)) = n) (hn : n ≤ 16) (es : List Edge) (hf : Fit n es) (hl : es.length ≤ 40) (i j : Nat) (hi : i < n) (hj : j < n) (K m : Nat) (hK : 64 < K) (hm : 41 < m) (t0 : Bool) :
    ∃ r, templelaw7_ComponentsRules.l3 K names es i j m (t0, 0) = some r ∧ ∃ s, r = .inl s := by
  refine rounds (L := templelaw7_ComponentsRules.l3 K names es i j) (fun s => ∃ t : Nat, s.2 = t ∧ t ≤ es.length) (fun s => es.length - s.2.toNat) _ (fun s m hI => ?_) m _ ⟨0, rfl, by omega⟩ (by simp only [Int.toNat_zero]; omega)
  obtain ⟨t1, t'⟩ := s
  obtain ⟨t, rfl, ht⟩ := hI
  simp only [templelaw7_ComponentsRules.l3, hk]
  by_cases hlt : (t : Int) < es.length
  · have hmem := rd_mem (xs := es) (Int.natCast_nonneg t) hlt
    have next : ∃ s' : Bool × Int, (∃ u : Nat, s'.2 = u ∧ u ≤ es.length) ∧ es.length - s'.2.toNat < es.length - (t : Int).toNat ∧ templelaw7_ComponentsRules.l3 K names es i j m (t1, (t : Int) + 1) = templelaw7_ComponentsRules.l3 K names es i j m s' :=
      ⟨(t1, (t : Int) + 1), ⟨t + 1, by simp, by omega⟩, by simp only; omega, rfl⟩
    rw [if_pos hlt, if_pos (Int.natCast_nonneg t), wr (a := (t : Int) + 1) (by omega) (by omega)]
    generalize rd es (t : Int) = e at hmem
    obtain ⟨_, f2, f3⟩ := hf e hmem
    by_cases he : e.From = j
    · rw [if_pos he]
      obtain ⟨b, h1, h2⟩ := Reaches_ok (by omega) hf (by omega) hi hj hK
      rw [h1]
      simp only [Option.bind_some]
      by_cases hb : b = true
      · rw [if_pos hb]
        obtain ⟨q, hq⟩ := Int.eq_ofNat_of_zero_le f2
        obtain ⟨b', h3, h4⟩ := Reaches_ok (j := q) (by omega) hf (by omega) hi (by omega) hK
        rw [hq, h3]
        have : b' = true := h4.2 (by rw [← hq]; refine .step ?_ hmem; rw [he]; exact h2.1 hb)
        subst this
        simp only [Option.bind_some, Bool.not_true, Bool.false_eq_true, if_false]
        exact .inr next
      · rw [if_neg hb]; exact .inr next
    · rw [if_neg he]; exact .inr next
  · rw [if_neg hlt]; exact .inl ⟨_, rfl, _, rfl⟩

theorem Rules_l4 (names : Int) (n : Nat) (hk : IntKind.wrap .i64 (1 + (iand .i64 names 15)) = n) (hn : n ≤ 16) (es : List Edge) (hf : Fit n es) (hl : es.length ≤ 40) (i j : Nat) (hi : i < n) (hj : j < n) (K m : Nat) (hK : 64 < K) (hm : 41 < m) (t0 : Bool) :
    ∃ r, templelaw7_ComponentsRules.l4 K names es i j m (t0, 0) = some r ∧ ∃ s, r = .inl s := by
  have e : ∀ m s, templelaw7_ComponentsRules.l4 K names es i j m s = templelaw7_ComponentsRules.l3 K names es i j m s := by
    intro m
    induction m with
    | zero => intro s; rfl
    | succ m ih => intro s; simp only [templelaw7_ComponentsRules.l4, templelaw7_ComponentsRules.l3, ih]
  rw [e]
  exact Rules_l3 names n hk hn es hf hl i j hi hj K m hK hm t0

theorem Rules_l2 (names : Int) (n : Nat) (hk : IntKind.wrap .i64 (1 + (iand .i64 names 15)) = n) (hn : n ≤ 16) (es : List Edge) (hf : Fit n es) (hl : es.length ≤ 40) (c : List Int × Int) (hc : c.1.length = n) (hL : ∀ i : Nat, i < n → ∃ d : Nat, rd c.1 (i : Int) = d ∧ Least es i d) (i : Nat) (hi : i < n) (K m : Nat) (hK : 64 < K) (hm : 41 < m) (t0 : Bool) :
    ∃ r, templelaw7_ComponentsRules.l2 K names es c i m (t0, 0) = some r ∧ ∃ s, r = .inl s := by
  refine rounds (L := templelaw7_ComponentsRules.l2 K names es c i) (fun s => ∃ t : Nat, s.2 = t ∧ t ≤ n) (fun s => n - s.2.toNat) _ (fun s m hI => ?_) m _ ⟨0, rfl, by omega⟩ (by simp only [Int.toNat_zero]; omega)
  obtain ⟨t1, t'⟩ := s
  obtain ⟨t, rfl, ht⟩ := hI
  simp only [templelaw7_ComponentsRules.l2, hk]
  by_cases hlt : (t : Int) < n
  · have hlt' : t < n := by omega
    have next : ∀ t1 : Bool, ∃ s' : Bool × Int, (∃ u : Nat, s'.2 = u ∧ u ≤ n) ∧ n - s'.2.toNat < n - (t : Int).toNat ∧ templelaw7_ComponentsRules.l2 K names es c i m (t1, (t : Int) + 1) = templelaw7_ComponentsRules.l2 K names es c i m s' :=
      fun t1 => ⟨(t1, (t : Int) + 1), ⟨t + 1, by simp, by omega⟩, by simp only; omega, rfl⟩
    rw [if_pos hlt, if_pos (Int.natCast_nonneg t), if_pos (by omega), wr (a := (t : Int) + 1) (by omega) (by omega)]
    obtain ⟨b, h1, h2⟩ := Reaches_ok (by omega) hf (by omega) hi hlt' hK
    obtain ⟨b', h3, h4⟩ := Reaches_ok (by omega) hf (by omega) hlt' hi hK
    obtain ⟨d, d1, d2⟩ := hL i hi
    obtain ⟨d', d3, d4⟩ := hL t hlt'
    have hm' : d = d' ↔ Mutual es i t := by
      constructor
      · rintro rfl
        exact ⟨d2.2.1.1.trans d4.2.1.2, d4.2.1.1.trans d2.2.1.2⟩
      · rintro ⟨m1, m2⟩
        have hx : Least es i d' := by
          have mid : Mutual es i d' := ⟨m1.trans d4.2.1.1, d4.2.1.2.trans m2⟩
          refine ⟨?_, mid, fun j hj hmu => d4.2.2 j hj ⟨m2.trans hmu.1, hmu.2.trans m1⟩⟩
          rcases Nat.lt_or_ge i d' with h | h
          · exact absurd ⟨m2, m1⟩ (d4.2.2 i h)
          · exact h
        exact d2.uniq hx
    obtain ⟨x3, e3, s3, rfl⟩ := Rules_l3 names n hk hn es hf hl i t hi hlt' K K hK (by omega) t1
    obtain ⟨x4, e4, s4, rfl⟩ := Rules_l4 names n hk hn es hf hl i t hi hlt' K K hK (by omega) t1
    rw [h1, h3, d1, d3, e3, e4]
    simp only [Option.bind_some, brk]
    by_cases hb : b = true
    · rw [if_pos hb, if_neg]
      · exact .inr (next s3.1)
      · rw [Classical.not_not]
        have : (d : Int) = (d' : Int) ↔ Reach es (t : Int) (i : Int) := by
          rw [Int.ofNat_inj, hm']
          exact ⟨fun h => h.2, fun h => ⟨h2.1 hb, h⟩⟩
        rw [Bool.eq_iff_iff, decide_eq_true_eq, this, h4]
    · rw [if_neg hb, if_neg]
      · exact .inr (next s4.1)
      · rw [Classical.not_not, decide_eq_false_iff_not]
        intro h
        exact hb (h2.2 (hm'.1 (by omega)).1)
  · rw [if_neg hlt]; exact .inl ⟨_, rfl, _, rfl⟩

theorem Rules_l1 (names : Int) (n : Nat) (hk : IntKind.wrap .i64 (1 + (iand .i64 names 15)) = n) (hn : n ≤ 16) (es : List Edge) (hf : Fit n es) (hl : es.length ≤ 40) (c : List Int × Int) (hc : c.1.length = n) (hL : ∀ i : Nat, i < n → ∃ d : Nat, rd c.1 (i : Int) = d ∧ Least es i d) (K m : Nat) (hK : 64 < K) (hm : 41 < m) (t0 : Bool) :
    ∃ r, templelaw7_ComponentsRules.l1 K names es c m (t0, 0) = some r ∧ ∃ s, r = .inl s := by
  refine rounds (L := templelaw7_ComponentsRules.l1 K names es c) (fun s => ∃ t : Nat, s.2 = t ∧ t ≤ n) (fun s => n - s.2.toNat) _ (fun s m hI => ?_) m _ ⟨0, rfl, by omega⟩ (by simp only [Int.toNat_zero]; omega)
  obtain ⟨t1, t'⟩ := s
  obtain ⟨t, rfl, ht⟩ := hI
  simp only [templelaw7_ComponentsRules.l1, hk]
  by_cases hlt : (t : Int) < n
  · have hlt' : t < n := by omega
    obtain ⟨d, d1, d2⟩ := hL t hlt'
    have hd := d2.1
    obtain ⟨d', d3, d4⟩ := hL d (by omega)
    have : d' = d := d4.uniq ⟨Nat.le_refl _, ⟨.refl _, .refl _⟩, fun j hj hmu => d2.2.2 j hj ⟨d2.2.1.1.trans hmu.1, hmu.2.trans d2.2.1.2⟩⟩
    subst this
    obtain ⟨x2, e2, s2, rfl⟩ := Rules_l2 names n hk hn es hf hl c hc hL t hlt' K K hK (by omega) t1
    rw [if_pos hlt, if_pos (Int.natCast_nonneg t), if_pos (by omega), d1, if_neg (by omega), if_neg (by omega), if_pos (by omega), if_pos (by omega), d3, if_neg (by simp), e2, wr (a := (t : Int) + 1) (by omega) (by omega)]
    exact .inr ⟨(s2.1, (t : Int) + 1), ⟨t + 1, by simp, by omega⟩, by simp only; omega, rfl⟩
  · rw [if_neg hlt]; exact .inl ⟨_, rfl, _, rfl⟩

theorem Rules_true (names : Int) (es : List Edge) : templelaw7_ComponentsRules 100 names es = some true := by
  unfold templelaw7_ComponentsRules
  obtain ⟨k, hk, hk0, hk1⟩ : ∃ k, IntKind.wrap .i64 (1 + (iand .i64 names 15)) = k ∧ 0 < k ∧ k ≤ 16 := ⟨_, rfl, by rw [and15, wr (by omega) (by omega)]; omega, by rw [and15, wr (by omega) (by omega)]; omega⟩
  obtain ⟨⟨fit, t⟩, h1, h2, h3⟩ := Rules_l0 names k hk hk0 hk1 es 100 100 (by decide)
  simp only at h2 h3
  rw [awake_ok (by decide), hk]
  simp only [Option.bind_some, Bool.not_true, Bool.false_eq_true, if_false, h1]
  obtain ⟨n, rfl⟩ := Int.eq_ofNat_of_zero_le (show 0 ≤ k by omega)
  obtain ⟨c, h4, h5⟩ := Comps_spec n fit (by omega) 100 (by decide) (by omega)
  rcases h5 with ⟨h5, _⟩ | ⟨_, h5, h6, h7⟩
  · exact absurd ⟨by omega, by omega, h3⟩ h5
  obtain ⟨x, e, s, rfl⟩ := Rules_l1 names n hk (by omega) fit h3 h2 c (by omega) (fun i hi => h7 i (by omega)) 100 100 (by decide) (by decide) false
  rw [h4]
  simp only [Option.bind_some, templelaw0_Num, h5]
  rw [if_neg (by decide), if_neg (by omega), e]
  rfl
theorem Rules_holds (a0 : Int) (a1 : List Edge) : ∃ K, templelaw7_ComponentsRules K a0 a1 = some true := ⟨100, Rules_true a0 a1⟩
end Go.Proofs.Ytmjhdhjijbmigaa
