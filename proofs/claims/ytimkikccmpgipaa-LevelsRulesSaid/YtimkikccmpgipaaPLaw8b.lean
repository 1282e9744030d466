/-
  Chapter 8: law LevelsRules. Own work; no claim stands here.
-/
import Derived.Test.YtimkikccmpgipaaPLaw8
namespace Go.Proofs.Ytimkikccmpgipaa
open S Go.Sort
set_option linter.unusedVariables false
set_option linter.unusedSimpArgs false
set_option maxRecDepth 100000

/-! ## A cycle is one -/
theorem IsWay.head {es : List Edge} {fin : Int} {f : List Int} : ∀ {w : List Int} {a : Int}, IsWay es fin f w a → (w ++ [fin])[0]? = some a
  | [], a, h => by have : a = fin := h; subst this; rfl
  | x :: w, a, ⟨h, _⟩ => by subst h; rfl
theorem IsWay.chain {es : List Edge} {fin : Int} {f : List Int} : ∀ {w : List Int} {a : Int}, IsWay es fin f w a → ∀ i, i < w.length → ∃ e ∈ es, w[i]? = some e.From ∧ (w ++ [fin])[i + 1]? = some e.To
  | [], a, h, i, hi => by simp at hi
  | x :: w, a, ⟨h, _, y, ⟨⟨e, he, hn, h2⟩, _⟩, hw⟩, i, hi => by
    cases i with
    | zero => exact ⟨e, he, by rw [List.getElem?_cons_zero, h, hn.1], by rw [List.cons_append, List.getElem?_cons_succ, hw.head, h2]⟩
    | succ i =>
      obtain ⟨e', he', g1, g2⟩ := hw.chain i (by simpa using hi)
      exact ⟨e', he', by rw [List.getElem?_cons_succ]; exact g1, by rw [List.cons_append, List.getElem?_cons_succ]; exact g2⟩
theorem rd_some {T : Type} [Inhabited T] {xs : List T} {i : Nat} {x : T} (h : xs[i]? = some x) : rd xs (i : Int) = x := by
  rw [rd_nat, List.getD_eq_getElem?_getD, h]; rfl
theorem CycSpec.ring {n : Nat} {es : List Edge} {c : List Int} (h : CycSpec n es c) (i : Nat) (hi : i < c.length) : ∃ e ∈ es, e.From = rd c (i : Int) ∧ e.To = rd c (((i + 1) % c.length : Nat) : Int) ∧ (e.Neg = true ∨ 0 < i) := by
  obtain ⟨k, hk, h1, _, f, w, hd, hw, rfl⟩ := h
  have hm := rd_mem (xs := es) (Int.natCast_nonneg k) (by omega)
  generalize rd es (k : Int) = e at *
  have key : ∀ (j : Nat) (x : Int), (w ++ [e.From])[j]? = some x → j < w.length + 1 → x = rd (e.From :: w) (((j + 1) % (e.From :: w).length : Nat) : Int) := fun j x hx hj => by
    symm
    rcases Nat.lt_or_eq_of_le (Nat.le_of_lt_succ hj) with hj | rfl
    · rw [Nat.mod_eq_of_lt (by simp only [List.length_cons]; omega)]
      rw [List.getElem?_append_left hj] at hx
      exact rd_some (by rw [List.getElem?_cons_succ]; exact hx)
    · rw [List.length_cons, Nat.mod_self]
      rw [List.getElem?_append_right (Nat.le_refl _), Nat.sub_self] at hx
      simp only [List.getElem?_cons_zero, Option.some.injEq] at hx
      rw [← hx]; rfl
  cases i with
  | zero => exact ⟨e, hm, rfl, key 0 e.To hw.head (by omega), .inl h1.1⟩
  | succ i =>
    obtain ⟨e', he', g1, g2⟩ := hw.chain i (by simpa using hi)
    exact ⟨e', he', (rd_some (by rw [List.getElem?_cons_succ]; exact g1)).symm, key (i + 1) e'.To g2 (by simpa using hi), .inr (by omega)⟩
theorem foldl_or {α : Type} (p : α → Bool) : ∀ (l : List α) (s : Bool), l.foldl (fun s e => s || p e) s = (s || l.any p)
  | [], s => by simp
  | x :: l, s => by rw [List.foldl_cons, foldl_or p l, List.any_cons, Bool.or_assoc]
theorem lr_l3 (K : Nat) (hK : 200000 ≤ K) (r : List Int × List Int × Int) (es : List Edge) (q : Int) (i : Nat) (hl : es.length ≤ 131072) (h0 : 0 ≤ Int.tmod (IntKind.wrap .i64 ((i : Int) + 1)) (r.2.1.length : Int)) :
    templelaw8_LevelsRules.l3 K r (es, q) (i : Int) K (false, 0) = some (es.any fun e => decide (e.From = rd r.2.1 (i : Int) ∧ e.To = rd r.2.1 (Int.tmod (IntKind.wrap .i64 ((i : Int) + 1)) (r.2.1.length : Int)) ∧ (e.Neg = true ∨ 0 < i)), (es.length : Int)) := by
  have := foldLoop es (templelaw8_LevelsRules.l3 K r (es, q) (i : Int)) (fun s e => s || decide (e.From = rd r.2.1 (i : Int) ∧ e.To = rd r.2.1 (Int.tmod (IntKind.wrap .i64 ((i : Int) + 1)) (r.2.1.length : Int)) ∧ (e.Neg = true ∨ 0 < i))) (fun m s t ht => by
    simp only [templelaw8_LevelsRules.l3]
    rw [if_pos (by omega), wr (a := (t : Int) + 1) (by omega) (by omega)]
    cases s with
    | true => rw [if_pos rfl, Bool.true_or]
    | false =>
      rw [if_neg (by decide), if_pos (by omega), if_pos (by omega), Bool.false_or]
      generalize rd es (t : Int) = e
      by_cases c1 : e.From = rd r.2.1 (i : Int)
      · rw [if_pos c1]
        by_cases c2 : e.To = rd r.2.1 (Int.tmod (IntKind.wrap .i64 ((i : Int) + 1)) (r.2.1.length : Int))
        · rw [if_pos c2]
          by_cases c3 : e.Neg = true
          · rw [if_pos c3, decide_eq_true (show _ ∧ _ ∧ _ from ⟨c1, c2, .inl c3⟩)]
          · rw [if_neg c3]
            have : decide (0 < (i : Int)) = decide (e.From = rd r.2.1 (i : Int) ∧ e.To = rd r.2.1 (Int.tmod (IntKind.wrap .i64 ((i : Int) + 1)) (r.2.1.length : Int)) ∧ (e.Neg = true ∨ 0 < i)) := by
              by_cases c4 : 0 < i
              · rw [decide_eq_true (show 0 < (i : Int) by omega), decide_eq_true (show _ ∧ _ ∧ _ from ⟨c1, c2, .inr c4⟩)]
              · rw [decide_eq_false (show ¬ 0 < (i : Int) by omega), decide_eq_false (fun h => h.2.2.elim c3 c4)]
            rw [this]
        · rw [if_neg c2, decide_eq_false (fun h => c2 h.2.1)]
      · rw [if_neg c1, decide_eq_false (fun h => c1 h.1)]) (fun m s => by simp only [templelaw8_LevelsRules.l3]; rw [if_neg (by omega)]) K (by omega) false
  rw [this, foldl_or, Bool.false_or]
theorem lr_l2 (K : Nat) (hK : 200000 ≤ K) (n : Nat) (es : List Edge) (c : List Int) (h : CycSpec n es c) (hc : c.length ≤ 65) (hl : es.length ≤ 131072) :
    templelaw8_LevelsRules.l2 K ([], c, 801) (es, 0) K 0 = some (.inl (c.length : Int)) := by
  refine scan_none (n := c.length) (by omega) (fun m i hi => ?_) (fun m => by simp only [templelaw8_LevelsRules.l2]; rw [if_neg (by omega)])
  have e1 : Int.tmod (IntKind.wrap .i64 ((i : Int) + 1)) (c.length : Int) = (((i + 1) % c.length : Nat) : Int) := by
    rw [wr (by omega) (by omega), Int.tmod_eq_emod_of_nonneg (by omega), Int.natCast_emod]; rfl
  have hlt : (i + 1) % c.length < c.length := Nat.mod_lt _ (by omega)
  have h3 := lr_l3 K hK ([], c, 801) es 0 i hl (by simp only; rw [e1]; omega)
  simp only [templelaw8_LevelsRules.l2]
  rw [if_pos (by omega), if_pos (by omega), if_pos (by rw [e1]; omega), if_pos (by rw [e1]; omega), h3, Option.bind_some]
  simp only
  have : (es.any fun e => decide (e.From = rd c (i : Int) ∧ e.To = rd c (Int.tmod (IntKind.wrap .i64 ((i : Int) + 1)) (c.length : Int)) ∧ (e.Neg = true ∨ 0 < i))) = true := by
    rw [List.any_eq_true]
    obtain ⟨e, he, g1, g2, g3⟩ := h.ring i hi
    exact ⟨e, he, decide_eq_true ⟨g1, by rw [e1]; exact g2, g3⟩⟩
  rw [this, if_neg (by decide), wr (by omega) (by omega)]

/-! ## Levels -/
theorem lr_l0 (K : Nat) (hK : 200000 ≤ K) (n : Nat) (es : List Edge) (xs : List Int) (hf : Fit n es) (h : Lev n es xs) (hl : es.length ≤ 131072) :
    templelaw8_LevelsRules.l0 K (xs, [], 0) (es, 0) K 0 = some (.inl (es.length : Int)) := by
  refine scan_none (n := es.length) (by omega) (fun m i hi => ?_) (fun m => by simp only [templelaw8_LevelsRules.l0]; rw [if_neg (by omega)])
  have hm := rd_mem (xs := es) (Int.natCast_nonneg i) (by omega)
  simp only [templelaw8_LevelsRules.l0]
  generalize rd es (i : Int) = e at *
  obtain ⟨⟨f0, f1⟩, f2, f3⟩ := hf e hm
  have hs := h.2 e hm
  have hlen := h.1.1
  have hng := ng_le e
  rw [if_pos (by omega), if_pos (by omega), if_pos f0, if_pos (by omega), if_pos f2, if_pos (by omega), if_neg (by omega), wr (by omega) (by omega)]
  by_cases c : e.Neg = true
  · have : ng e = 1 := if_pos c
    rw [if_pos c, if_neg (by omega)]
  · rw [if_neg c]
theorem lr_l1 (K : Nat) (hK : 200000 ≤ K) (n : Nat) (h1 : 1 ≤ n) (hn : n ≤ 64) (xs : List Int) (hlen : xs.length = n) (hx : ∀ i : Int, 0 ≤ i → i < n → rd xs i ≤ (n : Int) - 1) :
    ∃ r : Int × Int, templelaw8_LevelsRules.l1 K (xs, [], 0) K (0, 0) = some r ∧ r.1 < n := by
  refine rounds (L := templelaw8_LevelsRules.l1 K (xs, [], 0)) (fun s => ∃ t : Nat, s.2 = t ∧ t ≤ n ∧ s.1 < n) (fun s => n - s.2.toNat) (fun r => r.1 < n) (fun s m hI => ?_) K _ ⟨0, rfl, Nat.zero_le _, by simp only; omega⟩ (by show n - 0 < K; omega)
  obtain ⟨top, t'⟩ := s
  obtain ⟨t, rfl, ht, hv⟩ := hI
  simp only at hv
  simp only [templelaw8_LevelsRules.l1]
  by_cases hlt : (t : Int) < xs.length
  · have := hx t (by omega) (by omega)
    rw [if_pos hlt, if_pos (by omega), wr (by omega) (by omega)]
    exact .inr ⟨_, ⟨t + 1, by simp, by omega, by simp only; split <;> omega⟩, by simp only; omega, rfl⟩
  · rw [if_neg hlt]
    exact .inl ⟨_, rfl, hv⟩
theorem LevelsRules_true (K : Nat) (hK : 200000 ≤ K) (g : Grammar) : templelaw8_LevelsRules K g = some true := by
  obtain ⟨r, h1, h3⟩ := Strata_spec K hK g
  obtain ⟨b, hb, _, _, _, h2⟩ := Edges_both K hK g
  obtain ⟨l1, l2⟩ := h3.lens
  unfold templelaw8_LevelsRules
  rw [awake8 K hK, Option.bind_some, if_neg (by decide), h1, Option.bind_some, h2, Option.bind_some]
  rcases h3 with ⟨hm, rfl⟩ | ⟨hm, ⟨c, hc, rfl⟩ | ⟨hno, xs, hx, rfl⟩⟩
  · have : b = false := by cases b with | false => rfl | true => exact absurd (hb.1 rfl) hm
    subst this
    rfl
  · have : b = true := hb.2 hm
    subst this
    have hl := edges_len g (may_bd hm)
    simp only [templelaw0_Num, if_true]
    rw [if_neg (fun h => h rfl), Option.bind_some, if_neg (by decide), Option.bind_some, if_neg (fun h => h rfl)]
    have hne := hc.ne
    rw [if_neg (by rw [Int.natCast_eq_zero]; exact fun h => hne (List.eq_nil_of_length_eq_zero h)), if_neg (fun h => h rfl), lr_l2 K hK _ _ c hc l2 hl]
    rfl
  · have : b = true := hb.2 hm
    subst this
    have hl := edges_len g (may_bd hm)
    have hf := fit_edges hm
    have hlen := hx.1.1
    have hn := hm.1.2.1
    have hn1 : 1 ≤ g.Names.length := hm.1.1
    obtain ⟨P, p1, p2, p3⟩ := pot_of hm hno
    obtain ⟨⟨top, q⟩, ht, htop⟩ := lr_l1 K hK _ hn1 hn xs hlen fun i a b => by
      have := hx.1.2.2 P p1 p2 i a b
      have := p3 i a b
      omega
    simp only at htop
    simp only [templelaw0_Num, if_true]
    rw [if_neg (fun h => h rfl), Option.bind_some, if_pos rfl, if_neg (fun h => h (by rw [hlen])), lr_l0 K hK _ _ xs hf hx hl]
    simp only [brk, Option.bind_some]
    rw [ht, Option.bind_some]
    simp only
    rw [if_pos (by rw [hlen]), if_pos htop]
    rfl
theorem LevelsRules_holds (g : Grammar) (_ : wfGrammar g) : ∃ K, templelaw8_LevelsRules K g = some true := ⟨200000, LevelsRules_true 200000 (Nat.le_refl _) g⟩
end Go.Proofs.Ytimkikccmpgipaa
