/-
  The laws of chapter 7, in plain Lean: ComponentsMore. Own work; no claim stands here.
-/
import Derived.Test.YtmjhdhjijbmigaaPLaw7b
namespace Go.Proofs.Ytmjhdhjijbmigaa
open S
set_option linter.unusedVariables false
set_option linter.unusedSimpArgs false
set_option maxRecDepth 100000

theorem More_l0 (es : List Edge) (K m : Nat) (hm : 21 < m) :
    ∃ r, templelaw7_ComponentsMore.l0 K es m ([], 0) = some r ∧ (r.1.length ≤ 20 ∧ Fit 8 r.1) := by
  refine rounds (L := templelaw7_ComponentsMore.l0 K es) (fun s => ∃ t : Nat, s.2 = t ∧ t ≤ 20 ∧ s.1.length = t ∧ Fit 8 s.1) (fun s => 21 - s.2.toNat) _ (fun s m hI => ?_) m _ ⟨0, rfl, by omega, rfl, by intro e he; simp at he⟩ (by simp only; omega)
  obtain ⟨xs, t'⟩ := s
  obtain ⟨t, rfl, ht, hl, hf⟩ := hI
  simp only at hl hf
  simp only [templelaw7_ComponentsMore.l0, and7]
  by_cases hlt : (t : Int) < es.length
  · rw [if_pos hlt]
    by_cases h40 : (t : Int) < 20
    · rw [if_pos h40, if_pos (Int.natCast_nonneg t), if_pos (by simp [hl]; omega), wr (a := (t : Int) + 1) (by omega) (by omega)]
      refine .inr ⟨_, ⟨t + 1, by simp, by omega, by simp [hl], fun e he => ?_⟩, by simp only; omega, rfl⟩
      rcases List.mem_append.1 he with he | he
      · exact hf e he
      · simp at he; subst he; simp only; omega
    · rw [if_neg h40]
      exact .inl ⟨_, rfl, by simp only; omega, hf⟩
  · rw [if_neg hlt]
    exact .inl ⟨_, rfl, by simp only; omega, hf⟩

theorem Reach.mono {es fs : List Edge} (h : ∀ e ∈ es, e ∈ fs) {i j : Int} (r : Reach es i j) : Reach fs i j := by
  induction r with
  | refl => exact .refl _
  | step _ he ih => exact .step ih (h _ he)

theorem Reach_more {es : List Edge} {e : Edge} {i j : Int} : Reach (es ++ [e]) i j ↔ Reach es i j ∨ (Reach es i e.From ∧ Reach es e.To j) := by
  constructor
  · intro h
    induction h with
    | refl => exact .inl (.refl _)
    | @step x _ hx ih =>
      rcases List.mem_append.1 hx with hx | hx
      · rcases ih with ih | ⟨h1, h2⟩
        · exact .inl (.step ih hx)
        · exact .inr ⟨h1, .step h2 hx⟩
      · simp at hx; subst hx
        rcases ih with ih | ⟨h1, h2⟩
        · exact .inr ⟨ih, .refl _⟩
        · exact .inr ⟨h1, .refl _⟩
  · have m : ∀ a b, Reach es a b → Reach (es ++ [e]) a b := fun a b h => h.mono fun x hx => List.mem_append_left _ hx
    rintro (h | ⟨h1, h2⟩)
    · exact m _ _ h
    · exact (Reach.step (m _ _ h1) (List.mem_append_right _ (List.mem_singleton.2 rfl))).trans (m _ _ h2)

theorem Least_eq {es : List Edge} {i j c d : Nat} (h1 : Least es i c) (h2 : Least es j d) : c = d ↔ Mutual es i j := by
  constructor
  · rintro rfl
    exact ⟨h1.2.1.1.trans h2.2.1.2, h2.2.1.1.trans h1.2.1.2⟩
  · rintro ⟨m1, m2⟩
    have hx : Least es i d := by
      have mid : Mutual es i d := ⟨m1.trans h2.2.1.1, h2.2.1.2.trans m2⟩
      refine ⟨?_, mid, fun j hj hmu => h2.2.2 j hj ⟨m2.trans hmu.1, hmu.2.trans m1⟩⟩
      rcases Nat.lt_or_ge i d with h | h
      · exact absurd ⟨m2, m1⟩ (h2.2.2 i h)
      · exact h
    exact h1.uniq hx

theorem More_l2 (a b : Int) (f t : Nat) (hf : iand .i64 a 7 = f) (ht : iand .i64 b 7 = t) (hf8 : f < 8) (ht8 : t < 8) (es : List Edge) (hfit : Fit 8 es) (hl : es.length ≤ 20) (c d : List Int × Int) (hc : c.1.length = 8) (hd : d.1.length = 8)
    (hC : ∀ i : Nat, i < 8 → ∃ q : Nat, rd c.1 (i : Int) = q ∧ Least es i q) (hD : ∀ i : Nat, i < 8 → ∃ q : Nat, rd d.1 (i : Int) = q ∧ Least (es ++ [⟨f, t, false⟩]) i q) (i : Nat) (hi : i < 8) (K m : Nat) (hK : 64 < K) (hm : 21 < m) (t0 : Bool) :
    ∃ r, templelaw7_ComponentsMore.l2 K a b es c d i m (t0, 0) = some r ∧ ∃ s, r = .inl s := by
  refine rounds (L := templelaw7_ComponentsMore.l2 K a b es c d i) (fun s => ∃ t : Nat, s.2 = t ∧ t ≤ 8) (fun s => 8 - s.2.toNat) _ (fun s m hI => ?_) m _ ⟨0, rfl, by omega⟩ (by simp only [Int.toNat_zero]; omega)
  obtain ⟨t1, j'⟩ := s
  obtain ⟨j, rfl, hj⟩ := hI
  simp only [templelaw7_ComponentsMore.l2, hf, ht, List.nil_append]
  by_cases hlt : (j : Int) < 8
  · have hlt' : j < 8 := by omega
    have next : ∃ s' : Bool × Int, (∃ u : Nat, s'.2 = u ∧ u ≤ 8) ∧ 8 - s'.2.toNat < 8 - (j : Int).toNat ∧ templelaw7_ComponentsMore.l2 K a b es c d i m (t1, (j : Int) + 1) = templelaw7_ComponentsMore.l2 K a b es c d i m s' :=
      ⟨(t1, (j : Int) + 1), ⟨j + 1, by simp, by omega⟩, by simp only; omega, rfl⟩
    have fit' : Fit (8 : Nat) (es ++ [⟨f, t, false⟩]) := by
      intro e he
      rcases List.mem_append.1 he with he | he
      · exact hfit e he
      · simp at he; subst he; simp only; omega
    obtain ⟨b1, g1, k1⟩ := Reaches_ok (n := 8) (by omega) hfit (by omega) hi hlt' hK
    obtain ⟨b2, g2, k2⟩ := Reaches_ok (n := 8) (by omega) fit' (by simp; omega) hi hlt' hK
    obtain ⟨b3, g3, k3⟩ := Reaches_ok (n := 8) (by omega) hfit (by omega) hi hf8 hK
    obtain ⟨b4, g4, k4⟩ := Reaches_ok (n := 8) (by omega) hfit (by omega) ht8 hlt' hK
    obtain ⟨q1, p1, l1⟩ := hC i hi
    obtain ⟨q2, p2, l2⟩ := hC j hlt'
    obtain ⟨q3, p3, l3⟩ := hD i hi
    obtain ⟨q4, p4, l4⟩ := hD j hlt'
    have hmore := Reach_more (es := es) (e := ⟨f, t, false⟩) (i := i) (j := j)
    simp only at hmore
    rw [← k1, ← k2, ← k3, ← k4] at hmore
    have hm1 : q1 = q2 → q3 = q4 := fun h => (Least_eq l3 l4).2 (by
      obtain ⟨x, y⟩ := (Least_eq l1 l2).1 h
      exact ⟨Reach_more.2 (.inl x), Reach_more.2 (.inl y)⟩)
    have g1' : comps_Reaches K 8 es i j = some b1 := g1
    have g2' : comps_Reaches K 8 (es ++ [⟨f, t, false⟩]) i j = some b2 := g2
    have g3' : comps_Reaches K 8 es i f = some b3 := g3
    have g4' : comps_Reaches K 8 es t j = some b4 := g4
    have i0 : (0 : Int) ≤ i := Int.natCast_nonneg i
    have j0 : (0 : Int) ≤ j := Int.natCast_nonneg j
    have ia : (i : Int) < (c.1.length : Int) := by omega
    have ib : (i : Int) < (d.1.length : Int) := by omega
    have ja : (j : Int) < (c.1.length : Int) := by omega
    have jb : (j : Int) < (d.1.length : Int) := by omega
    simp only [if_pos hlt, if_pos i0, if_pos j0, if_pos ia, if_pos ib, if_pos ja, if_pos jb, p1, p2, p3, p4, g1', g2', g3', g4', Option.bind_some, wr (a := (j : Int) + 1) (by omega) (by omega)]
    refine .inr ?_
    obtain ⟨s', n1, n2, n3⟩ := next
    refine ⟨s', n1, n2, ?_⟩
    rw [← n3]
    by_cases hq : (q1 : Int) = q2
    · have hq' : q3 = q4 := hm1 (by omega)
      subst hq'
      cases b1 <;> cases b2 <;> cases b3 <;> cases b4 <;> first | exact absurd hmore (by decide) | simp [hq]
    · cases b1 <;> cases b2 <;> cases b3 <;> cases b4 <;> first | exact absurd hmore (by decide) | simp [hq]
  · rw [if_neg hlt]; exact .inl ⟨_, rfl, _, rfl⟩

theorem More_true (es : List Edge) (a b : Int) : templelaw7_ComponentsMore 100 es a b = some true := by
  unfold templelaw7_ComponentsMore
  obtain ⟨⟨fit, t⟩, h1, h2, h3⟩ := More_l0 es 100 100 (by decide)
  simp only at h2 h3
  obtain ⟨f, hf⟩ := Int.eq_ofNat_of_zero_le (show 0 ≤ iand .i64 a 7 by rw [and7]; omega)
  obtain ⟨u, hu⟩ := Int.eq_ofNat_of_zero_le (show 0 ≤ iand .i64 b 7 by rw [and7]; omega)
  have hf8 : f < 8 := by have := and7 a; omega
  have hu8 : u < 8 := by have := and7 b; omega
  rw [awake_ok (by decide), h1]
  simp only [Option.bind_some, Bool.not_true, Bool.false_eq_true, if_false, hf, hu, List.nil_append]
  rw [if_pos (by simp; omega), if_pos (by simp; omega)]
  have fit' : Fit 8 (fit ++ [⟨f, u, false⟩]) := by
    intro e he
    rcases List.mem_append.1 he with he | he
    · exact h3 e he
    · simp at he; subst he; simp only; omega
  obtain ⟨c, h4, h5⟩ := Comps_spec 8 fit (by omega) 100 (by decide) (by omega)
  rcases h5 with ⟨h5, _⟩ | ⟨_, h5, h6, h7⟩
  · exact absurd ⟨by omega, by omega, h3⟩ h5
  obtain ⟨d, g4, g5⟩ := Comps_spec 8 (fit ++ [⟨f, u, false⟩]) (by simp; omega) 100 (by decide) (by simp; omega)
  rcases g5 with ⟨g5, _⟩ | ⟨_, g5, g6, g7⟩
  · exact absurd ⟨by omega, by omega, fit'⟩ g5
  have L1 : ∃ r, templelaw7_ComponentsMore.l1 100 a b fit c d 100 (false, 0) = some r ∧ ∃ s, r = .inl s := by
    refine rounds (L := templelaw7_ComponentsMore.l1 100 a b fit c d) (fun s => ∃ t : Nat, s.2 = t ∧ t ≤ 8) (fun s => 8 - s.2.toNat) _ (fun s m hI => ?_) 100 _ ⟨0, rfl, by omega⟩ (by decide)
    obtain ⟨t1, i'⟩ := s
    obtain ⟨i, rfl, hi⟩ := hI
    simp only [templelaw7_ComponentsMore.l1]
    by_cases hlt : (i : Int) < 8
    · obtain ⟨x2, e2, s2, rfl⟩ := More_l2 a b f u hf hu hf8 hu8 fit h3 h2 c d (by omega) (by omega) (fun i hi => h7 i (by omega)) (fun i hi => g7 i (by omega)) i (by omega) 100 100 (by decide) (by decide) t1
      rw [if_pos hlt, e2, wr (a := (i : Int) + 1) (by omega) (by omega)]
      exact .inr ⟨(s2.1, (i : Int) + 1), ⟨i + 1, by simp, by omega⟩, by simp only; omega, rfl⟩
    · rw [if_neg hlt]; exact .inl ⟨_, rfl, _, rfl⟩
  obtain ⟨x, e, s, rfl⟩ := L1
  rw [h4, g4]
  simp only [Option.bind_some, templelaw0_Num, h5, g5]
  rw [if_neg (by decide), if_neg (by decide), if_neg (by omega), if_neg (by omega), e]
  rfl
theorem More_holds (a0 : List Edge) (a1 a2 : Int) : ∃ K, templelaw7_ComponentsMore K a0 a1 a2 = some true := ⟨100, More_true a0 a1 a2⟩
end Go.Proofs.Ytmjhdhjijbmigaa
