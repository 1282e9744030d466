/-
  The laws of chapter 7, in plain Lean: ComponentsRings. Own work; no claim stands here.
-/
import Derived.Test.YtmjhdhjijbmigaaPLaw7
namespace Go.Proofs.Ytmjhdhjijbmigaa
open S
set_option linter.unusedVariables false
set_option linter.unusedSimpArgs false
set_option maxRecDepth 100000

theorem Reaches_ok {n : Nat} {es : List Edge} (hn : n ≤ 64) (hf : Fit n es) (hl : es.length ≤ 60) {i j : Nat} (hi : i < n) (hj : j < n) {K : Nat} (hK : 64 < K) : ∃ b, comps_Reaches K n es i j = some b ∧ (b = true ↔ Reach es i j) := by
  obtain ⟨b, h1, h2⟩ := Reaches_spec n es i j (by omega) K hK (by omega)
  exact ⟨b, h1, h2.trans ⟨fun h => h.2.2.2, fun h => ⟨⟨by omega, by omega, hf⟩, by omega, by omega, h⟩⟩⟩

/-- The i-th edge of a ring of k. -/
def ringE (k : Nat) (i : Nat) : Edge := ⟨(i : Int), (((i + 1) % k : Nat) : Int), decide ((i : Int) % 2 = 1)⟩
def ring (k : Nat) : List Edge := (List.range k).map (ringE k)
def ringO (k c : Nat) : List Edge := (ring k).take c ++ (ring k).drop (c + 1)

theorem ring_get {k i : Nat} (h : i < k) : (ring k)[i]? = some (ringE k i) := by simp [ring, h]
theorem mem_ring {k : Nat} {e : Edge} : e ∈ ring k ↔ ∃ i, i < k ∧ e = ringE k i := by
  simp [ring, eq_comm]
theorem mem_ringO {k c : Nat} {e : Edge} : e ∈ ringO k c ↔ ∃ i, i < k ∧ i ≠ c ∧ e = ringE k i := by
  unfold ringO
  rw [List.mem_append]
  constructor
  · rintro (h | h)
    · obtain ⟨i, hi⟩ := List.getElem?_of_mem h
      rw [List.getElem?_take] at hi
      split at hi
      · rename_i hlt
        have hk : i < k := by
          rcases Nat.lt_or_ge i k with h | h
          · exact h
          · rw [List.getElem?_eq_none (by simp [ring]; omega)] at hi; cases hi
        rw [ring_get hk] at hi; cases hi
        exact ⟨i, hk, by omega, rfl⟩
      · cases hi
    · obtain ⟨i, hi⟩ := List.getElem?_of_mem h
      rw [List.getElem?_drop] at hi
      have hk : c + 1 + i < k := by
        rcases Nat.lt_or_ge (c + 1 + i) k with h | h
        · exact h
        · rw [List.getElem?_eq_none (by simp [ring]; omega)] at hi; cases hi
      rw [ring_get hk] at hi; cases hi
      exact ⟨c + 1 + i, hk, by omega, rfl⟩
  · rintro ⟨i, hk, hne, rfl⟩
    rcases Nat.lt_or_gt_of_ne hne with h | h
    · exact .inl (List.mem_of_getElem? (i := i) (by rw [List.getElem?_take, if_pos h, ring_get hk]))
    · exact .inr (List.mem_of_getElem? (i := i - (c + 1)) (by rw [List.getElem?_drop, show c + 1 + (i - (c + 1)) = i by omega, ring_get hk]))

theorem ring_fit {k m : Nat} (hk : 0 < k) (hm : k ≤ m) : Fit m (ring k) := by
  intro e he
  obtain ⟨i, hi, rfl⟩ := mem_ring.1 he
  have := Nat.mod_lt (i + 1) hk
  simp only [ringE]
  omega
theorem ringO_fit {k c m : Nat} (hk : 0 < k) (hm : k ≤ m) : Fit m (ringO k c) := by
  intro e he
  obtain ⟨i, hi, _, rfl⟩ := mem_ringO.1 he
  exact ring_fit hk hm _ (mem_ring.2 ⟨i, hi, rfl⟩)

theorem ring_on {k : Nat} (hk : 0 < k) (i : Nat) (hi : i < k) : ∀ t, Reach (ring k) i ((i + t) % k : Nat) := by
  intro t
  induction t with
  | zero => rw [Nat.add_zero, Nat.mod_eq_of_lt hi]; exact .refl _
  | succ t ih =>
    have hl := Nat.mod_lt (i + t) hk
    have := Reach.step ih (e := ringE k ((i + t) % k)) (mem_ring.2 ⟨_, hl, rfl⟩)
    simp only [ringE] at this
    rwa [show ((i + t) % k + 1) % k = (i + (t + 1)) % k by rw [Nat.mod_add_mod, Nat.add_assoc]] at this
theorem ring_all {k i j : Nat} (hi : i < k) (hj : j < k) : Reach (ring k) i j := by
  have := ring_on (by omega) i hi (k + j - i)
  rwa [show i + (k + j - i) = j + k by omega, Nat.add_mod_right, Nat.mod_eq_of_lt hj] at this

/-- From where no edge goes off nothing is reached. -/
theorem Reach_out {es : List Edge} {i : Int} (h : ∀ e ∈ es, e.From ≠ i) {j : Int} (r : Reach es i j) : j = i := by
  induction r with
  | refl => rfl
  | step _ he ih => exact absurd ih (h _ he)

theorem ring_least {k i : Nat} (hk : 0 < k) : Least (ring k) i (if i < k then 0 else i) := by
  split
  · rename_i h
    exact ⟨Nat.zero_le _, ⟨ring_all h hk, ring_all hk h⟩, fun j hj => by omega⟩
  · rename_i h
    refine ⟨Nat.le_refl _, ⟨.refl _, .refl _⟩, fun j hj hmu => ?_⟩
    have := Reach_out (fun e he => by
      obtain ⟨q, hq, rfl⟩ := mem_ring.1 he
      simp only [ringE]; omega) hmu.1
    omega

/-- Where a number stands in the open ring. -/
def pos (k c v : Nat) : Nat := (v + k - (c + 1)) % k
theorem pos_lt {k c v : Nat} (hk : 0 < k) : pos k c v < k := Nat.mod_lt _ hk
theorem pos_eq {k c v : Nat} (hc : c < k) (hv : v < k) : pos k c v = if c < v then v - (c + 1) else v + k - (c + 1) := by
  unfold pos
  split
  · rw [show v + k - (c + 1) = v - (c + 1) + k by omega, Nat.add_mod_right, Nat.mod_eq_of_lt (by omega)]
  · rw [Nat.mod_eq_of_lt (by omega)]
theorem pos_next {k c i : Nat} (hc : c < k) (hi : i < k) (hne : i ≠ c) : pos k c ((i + 1) % k) = pos k c i + 1 := by
  have hl := Nat.mod_lt (i + 1) (show 0 < k by omega)
  rw [pos_eq hc hl, pos_eq hc hi]
  by_cases h : i + 1 = k
  · rw [h, Nat.mod_self]
    rw [if_neg (by omega), if_pos (by omega)]; omega
  · rw [Nat.mod_eq_of_lt (by omega)]
    split <;> split <;> omega

theorem ringO_up {k c : Nat} (hc : c < k) {i j : Int} (r : Reach (ringO k c) i j) : j = i ∨ ∃ a b : Nat, i = a ∧ j = b ∧ a < k ∧ b < k ∧ pos k c a < pos k c b := by
  induction r with
  | refl => exact .inl rfl
  | @step e _ he ih =>
    obtain ⟨q, hq, hne, rfl⟩ := mem_ringO.1 he
    have hn := pos_next hc hq hne
    have hl := Nat.mod_lt (q + 1) (show 0 < k by omega)
    simp only [ringE] at ih ⊢
    right
    rcases ih with h | ⟨a, b, h1, h2, h3, h4, h5⟩
    · exact ⟨q, (q + 1) % k, h.symm, rfl, hq, hl, by omega⟩
    · have : q = b := by omega
      subst this
      exact ⟨a, (q + 1) % k, h1, rfl, h3, hl, by omega⟩

theorem ringO_mutual {k c : Nat} (hc : c < k) {i j : Nat} (h : Mutual (ringO k c) i j) : i = j := by
  rcases ringO_up hc h.1 with e | ⟨a, b, h1, h2, _, _, h5⟩
  · omega
  · rcases ringO_up hc h.2 with e | ⟨a', b', g1, g2, _, _, g5⟩
    · omega
    · have : a' = b := by omega
      have : b' = a := by omega
      subst_vars; omega
theorem ringO_least {k c i : Nat} (hc : c < k) : Least (ringO k c) i i :=
  ⟨Nat.le_refl _, ⟨.refl _, .refl _⟩, fun j hj hmu => by have := ringO_mutual hc hmu; omega⟩

theorem ringO_on {k c : Nat} (hc : c < k) : ∀ t, t < k → Reach (ringO k c) ((c + 1) % k : Nat) ((c + 1 + t) % k : Nat) := by
  intro t
  induction t with
  | zero => intro _; exact .refl _
  | succ t ih =>
    intro ht
    have hk : 0 < k := by omega
    have hl := Nat.mod_lt (c + 1 + t) hk
    have hne : (c + 1 + t) % k ≠ c := by
      intro h
      by_cases hlt : c + 1 + t < k
      · rw [Nat.mod_eq_of_lt hlt] at h; omega
      · rw [show c + 1 + t = (c + 1 + t - k) + k by omega, Nat.add_mod_right, Nat.mod_eq_of_lt (by omega)] at h; omega
    have := Reach.step (ih (by omega)) (e := ringE k ((c + 1 + t) % k)) (mem_ringO.2 ⟨_, hl, hne, rfl⟩)
    simp only [ringE] at this
    rwa [show ((c + 1 + t) % k + 1) % k = (c + 1 + (t + 1)) % k by rw [Nat.mod_add_mod, Nat.add_assoc (c + 1)]] at this
theorem ringO_yes {k c : Nat} (hc : c < k) : Reach (ringO k c) ((c + 1) % k : Nat) c := by
  have := ringO_on hc (k - 1) (by omega)
  rwa [show c + 1 + (k - 1) = c + k by omega, Nat.add_mod_right, Nat.mod_eq_of_lt hc] at this
theorem ringO_no {k c : Nat} (hk : 2 ≤ k) (hc : c < k) : ¬ Reach (ringO k c) c ((c + 1) % k : Nat) := by
  intro h
  have hl := Nat.mod_lt (c + 1) (show 0 < k by omega)
  have hne : (c + 1) % k ≠ c := by
    by_cases h : c + 1 = k
    · rw [h, Nat.mod_self]; omega
    · rw [Nat.mod_eq_of_lt (by omega)]; omega
  rcases ringO_up hc h with e | ⟨a, b, h1, h2, h3, h4, h5⟩
  · omega
  · have ha : a = c := by omega
    have hb : b = (c + 1) % k := by omega
    rw [ha, hb] at h5
    have h0 : pos k c ((c + 1) % k) = 0 := by
      rw [pos_eq hc hl]
      by_cases h : c + 1 = k
      · rw [h, Nat.mod_self, if_neg (by omega)]; omega
      · rw [Nat.mod_eq_of_lt (by omega), if_pos (by omega)]; omega
    omega

theorem Rings_l0 (many : Int) (k : Nat) (hk : IntKind.wrap .i64 (2 + (iand .i64 many 31)) = k) (h2 : 2 ≤ k) (h33 : k ≤ 33) (K m : Nat) (hm : 34 < m) :
    ∃ t, templelaw7_ComponentsRings.l0 K many m ([], 0) = some (ring k, t) := by
  have := rounds (L := templelaw7_ComponentsRings.l0 K many) (fun s => ∃ t : Nat, s.2 = t ∧ t ≤ k ∧ s.1 = (List.range t).map (ringE k)) (fun s => k - s.2.toNat) (fun r => r.1 = ring k) (fun s m hI => ?_) m ([], 0) ⟨0, rfl, by omega, rfl⟩ (by simp only [Int.toNat_zero]; omega)
  · obtain ⟨⟨xs, t⟩, h1, h2⟩ := this
    simp only at h2
    exact ⟨t, by rw [h1, h2]⟩
  obtain ⟨xs, t'⟩ := s
  obtain ⟨t, rfl, ht, hx⟩ := hI
  simp only at hx
  simp only [templelaw7_ComponentsRings.l0, hk, and1]
  by_cases hlt : (t : Int) < k
  · have ht' : t < k := by omega
    have hl : xs.length = t := by rw [hx]; simp
    rw [if_pos hlt, if_pos (by omega), if_pos (by simp [hl]; omega), wr (a := (t : Int) + 1) (by omega) (by omega)]
    have e : (⟨(t : Int), Int.tmod ((t : Int) + 1) k, decide ((t : Int) % 2 = 1)⟩ : Edge) = ringE k t := by
      unfold ringE
      congr 1
    rw [e]
    exact .inr ⟨(xs ++ [ringE k t], (t : Int) + 1), ⟨t + 1, by simp, by omega, by simp only; rw [hx, List.range_succ, List.map_append]; rfl⟩, by simp only; omega, rfl⟩
  · have : t = k := by omega
    subst this
    rw [if_neg hlt]
    exact .inl ⟨_, rfl, hx⟩

theorem Rings_l1 (many names : Int) (k n : Nat) (hk : IntKind.wrap .i64 (2 + (iand .i64 many 31)) = k) (hk33 : k ≤ 33) (hn : IntKind.wrap .i64 ((IntKind.wrap .i64 (2 + (iand .i64 many 31))) + (iand .i64 names 15)) = n) (hn64 : n ≤ 64) (a b : List Int × Int) (ha : (a.1.length : Int) = n) (hb : (b.1.length : Int) = n)
    (hA : ∀ i : Nat, i < n → rd a.1 (i : Int) = ((if i < k then 0 else i : Nat) : Int)) (hB : ∀ i : Nat, i < n → rd b.1 (i : Int) = i) (K m : Nat) (hm : 65 < m) : ∃ r, templelaw7_ComponentsRings.l1 K many names a b m 0 = some r ∧ ∃ s, r = .inl s := by
  refine rounds (L := templelaw7_ComponentsRings.l1 K many names a b) (fun s => ∃ t : Nat, s = t ∧ t ≤ n) (fun s => n - s.toNat) _ (fun s m hI => ?_) m _ ⟨0, rfl, by omega⟩ (by simp only [Int.toNat_zero]; omega)
  obtain ⟨t, rfl, ht⟩ := hI
  simp only [templelaw7_ComponentsRings.l1, hn]
  rw [hk]
  by_cases hlt : (t : Int) < n
  · have ht' : t < n := by omega
    have hw : ((if (t : Int) < k then some 0 else some (t : Int)) : Option Int) = some (((if t < k then 0 else t : Nat)) : Int) := by
      by_cases h : t < k
      · rw [if_pos (by omega), if_pos h]; rfl
      · rw [if_neg (by omega), if_neg h]
    rw [if_pos hlt, hw]
    simp only [Option.bind_some]
    rw [if_pos (Int.natCast_nonneg t), if_pos (by omega), hA t ht', if_neg (by simp), if_pos (by omega), hB t ht', if_neg (by simp), wr (a := (t : Int) + 1) (by omega) (by omega)]
    exact .inr ⟨(t : Int) + 1, ⟨t + 1, by simp, by omega⟩, by omega, rfl⟩
  · rw [if_neg hlt]; exact .inl ⟨_, rfl, _, rfl⟩

theorem sl_take {T : Type} (xs : List T) (c : Nat) : sl xs 0 (c : Int) = xs.take c := by simp [sl]
theorem sl_drop {T : Type} (xs : List T) (c : Nat) : sl xs (c : Int) (xs.length : Int) = xs.drop c := by simp [sl]

theorem Rings_true (many at' names : Int) : templelaw7_ComponentsRings 100 many at' names = some true := by
  unfold templelaw7_ComponentsRings
  obtain ⟨k, hk, hk2, hk33⟩ : ∃ k : Nat, IntKind.wrap .i64 (2 + (iand .i64 many 31)) = k ∧ 2 ≤ k ∧ k ≤ 33 := ⟨(2 + many % 32).toNat, by rw [and31, wr (by omega) (by omega)]; omega, by omega, by omega⟩
  obtain ⟨n, hn, hn2, hn64⟩ : ∃ n : Nat, IntKind.wrap .i64 ((k : Int) + (iand .i64 names 15)) = n ∧ k ≤ n ∧ n ≤ 64 := ⟨(k + names % 16).toNat, by rw [and15, wr (by omega) (by omega)]; omega, by omega, by omega⟩
  have hku : IntKind.wrap .u64 (k : Int) = k := wu (by omega) (by omega)
  obtain ⟨c, hc, hck⟩ : ∃ c : Nat, IntKind.wrap .i64 (Int.tmod (IntKind.wrap .u64 at') (k : Int)) = c ∧ c < k := by
    have h0 : 0 ≤ IntKind.wrap .u64 at' := by rw [wrap_u64]; omega
    rw [Int.tmod_eq_emod_of_nonneg h0]
    have h1 := Int.emod_nonneg (IntKind.wrap .u64 at') (show (k : Int) ≠ 0 by omega)
    have h2 := Int.emod_lt_of_pos (IntKind.wrap .u64 at') (show (0 : Int) < (k : Int) by omega)
    rw [wr (by omega) (by omega)]
    exact ⟨(IntKind.wrap .u64 at' % (k : Int)).toNat, by omega, by omega⟩
  obtain ⟨t0, h1⟩ := Rings_l0 many k hk hk2 hk33 100 100 (by decide)
  have hc1 : IntKind.wrap .i64 ((c : Int) + 1) = ((c + 1 : Nat) : Int) := by rw [wr (by omega) (by omega)]; simp
  have hrl : (ring k).length = k := by simp [ring]
  have hop : (([] : List Edge) ++ sl (ring k) 0 (c : Int)) ++ sl (ring k) ((c + 1 : Nat) : Int) ((ring k).length : Int) = ringO k c := by
    rw [sl_take, sl_drop, List.nil_append]; rfl
  have hol : (ringO k c).length ≤ 33 := by simp [ringO, hrl]; omega
  have hmod : Int.tmod ((c + 1 : Nat) : Int) (k : Int) = (((c + 1) % k : Nat) : Int) := by
    rw [Int.tmod_eq_emod_of_nonneg (by omega)]; simp
  have hcl := Nat.mod_lt (c + 1) (show 0 < k by omega)
  rw [awake_ok (by decide)]
  simp only [Option.bind_some, Bool.not_true, Bool.false_eq_true, if_false, h1, hk, hn, hku, hc, hc1, hmod, hop]
  obtain ⟨a, a1, a2⟩ := Comps_spec n (ring k) (by omega) 100 (by decide) (by omega)
  obtain ⟨b, b1, b2⟩ := Comps_spec n (ringO k c) (by omega) 100 (by decide) (by omega)
  rcases a2 with ⟨a2, _⟩ | ⟨_, a3, a4, a5⟩
  · exact absurd ⟨by omega, by omega, ring_fit (by omega) hn2⟩ a2
  rcases b2 with ⟨b2, _⟩ | ⟨_, b3, b4, b5⟩
  · exact absurd ⟨by omega, by omega, ringO_fit (by omega) hn2⟩ b2
  obtain ⟨x, e, s, rfl⟩ := Rings_l1 many names k n hk hk33 (by rw [hk]; exact hn) hn64 a b a4 b4 (fun i hi => by
      obtain ⟨d, d1, d2⟩ := a5 i (by omega)
      rw [d1, d2.uniq (ring_least (by omega))]) (fun i hi => by
      obtain ⟨d, d1, d2⟩ := b5 i (by omega)
      rw [d1, d2.uniq (ringO_least hck)]) 100 100 (by decide)
  obtain ⟨p, p1, p2⟩ := Reaches_ok (n := n) hn64 (ringO_fit (k := k) (c := c) (by omega) hn2) (by omega) (i := (c + 1) % k) (j := c) (by omega) (by omega) (K := 100) (by decide)
  obtain ⟨q, q1, q2⟩ := Reaches_ok (n := n) hn64 (ringO_fit (k := k) (c := c) (by omega) hn2) (by omega) (i := c) (j := (c + 1) % k) (by omega) (by omega) (K := 100) (by decide)
  have hp : p = true := p2.2 (ringO_yes hck)
  have hq : q = false := by
    cases q with
    | false => rfl
    | true => exact absurd (q2.1 rfl) (ringO_no hk2 hck)
  subst hp hq
  have l1 : (c : Int) ≤ ((ring k).length : Int) := by omega
  have l2 : ((c + 1 : Nat) : Int) ≤ ((ring k).length : Int) := by omega
  have s1 : (sl (ring k) 0 (c : Int)).length ≤ 33 := by rw [sl_take, List.length_take]; omega
  have s2 : (sl (ring k) ((c + 1 : Nat) : Int) ((ring k).length : Int)).length ≤ 33 := by rw [sl_drop, List.length_drop]; omega
  rw [a1, Option.bind_some, if_pos (by omega), if_pos (Int.natCast_nonneg c), if_pos l1, if_pos (by rw [List.length_nil]; omega), if_pos (Int.natCast_nonneg (c + 1)), if_pos l2, if_pos (by rw [List.length_append, List.length_nil]; omega)]
  simp only [b1, Option.bind_some, templelaw0_Num, a3, b3]
  rw [if_neg (by decide), if_neg (by decide), if_neg (by omega), if_neg (by omega), e]
  simp only [brk, Option.bind_some]
  rw [if_pos (by omega), p1]
  simp only [Option.bind_some, if_true, q1]
  rfl
theorem Rings_holds (a0 a1 a2 : Int) : ∃ K, templelaw7_ComponentsRings K a0 a1 a2 = some true := ⟨100, Rings_true a0 a1 a2⟩
#print axioms Rings_holds
end Go.Proofs.Ytmjhdhjijbmigaa
