/-
  Chapter 8: law LevelsRings. Own work; no claim stands here.
-/
import Derived.Test.YtimkikccmpgipaaPLaw8e
namespace Go.Proofs.Ytimkikccmpgipaa
open S Go.Sort
set_option linter.unusedVariables false
set_option linter.unusedSimpArgs false
set_option maxRecDepth 100000

def ringE (k : Nat) (neg : List Int) : List Edge := (List.range k).map (rowE k neg)
theorem ring_edges (k : Nat) (neg : List Int) : edgesOf (rowG k neg true) = ringE k neg := by
  rw [row_edges]; rfl
theorem ring_rd (k : Nat) (neg : List Int) (i : Nat) (h : i < k) : rd (ringE k neg) (i : Int) = rowE k neg i := by
  rw [rd_nat, List.getD_eq_getElem?_getD]
  unfold ringE
  rw [List.getElem?_map, List.getElem?_range h]; rfl
theorem ring_mem {k : Nat} {neg : List Int} {e : Edge} (h : e ∈ ringE k neg) : ∃ i, i < k ∧ e = rowE k neg i := by
  obtain ⟨i, hi, rfl⟩ := List.mem_map.1 h
  exact ⟨i, List.mem_range.1 hi, rfl⟩
theorem ring_in {k : Nat} {neg : List Int} {i : Nat} (h : i < k) : rowE k neg i ∈ ringE k neg := List.mem_map.2 ⟨i, List.mem_range.2 h, rfl⟩
theorem nx_eq (k i : Nat) (h : i < k) : (i + 1) % k = if i + 1 < k then i + 1 else 0 := by
  split
  · exact Nat.mod_eq_of_lt (by omega)
  · have : i + 1 = k := by omega
    rw [this, Nat.mod_self]
theorem ring_fit (k : Nat) (neg : List Int) : Fit (k : Int) (ringE k neg) := fun e he => by
  obtain ⟨i, hi, rfl⟩ := ring_mem he
  have : (i + 1) % k < k := Nat.mod_lt _ (by omega)
  exact ⟨⟨by show 0 ≤ (i : Int); omega, by show (i : Int) < _; omega⟩, by show 0 ≤ (((i + 1) % k : Nat) : Int); omega, by show (((i + 1) % k : Nat) : Int) < _; omega⟩
/-- How far around to f. -/
def fd (k f x : Nat) : Nat := if x ≤ f then f - x else f + k - x
theorem fd_step {k f x : Nat} (hf : f < k) (hx : x < k) (hne : x ≠ f) : fd k f x = fd k f ((x + 1) % k) + 1 := by
  rw [nx_eq k x hx]
  unfold fd
  split <;> split <;> split <;> omega
def ff (k f : Nat) : List Int := (List.range k).map fun x => (fd k f x : Int)
theorem ff_rd (k f x : Nat) (h : x < k) : rd (ff k f) (x : Int) = (fd k f x : Int) := by
  rw [rd_nat, List.getD_eq_getElem?_getD]
  unfold ff
  rw [List.getElem?_map, List.getElem?_range h]; rfl
theorem ring_dist (k f : Nat) (neg : List Int) (h2 : k ≤ 33) (hf : f < k) : Dist k (ringE k neg) (f : Int) (ff k f) := by
  refine ⟨by simp [ff], ?_, fun x a b => ?_, fun x a b => ?_, fun x a b hne h0 => ?_, fun e he h0 => ?_⟩
  · rw [ff_rd k f f hf]; unfold fd; rw [if_pos (Nat.le_refl _), Nat.sub_self]; rfl
  · obtain ⟨y, rfl⟩ := Int.eq_ofNat_of_zero_le a
    rw [ff_rd k f y (by omega)]; omega
  · obtain ⟨y, rfl⟩ := Int.eq_ofNat_of_zero_le a
    rw [ff_rd k f y (by omega)]; unfold fd; split <;> omega
  · obtain ⟨y, rfl⟩ := Int.eq_ofNat_of_zero_le a
    have hy : y < k := by omega
    have hlt : (y + 1) % k < k := Nat.mod_lt _ (by omega)
    refine ⟨rowE k neg y, ring_in hy, rfl, ?_, ?_⟩
    · show 0 ≤ rd (ff k f) (((y + 1) % k : Nat) : Int)
      rw [ff_rd k f _ hlt]; omega
    · show _ = rd (ff k f) (((y + 1) % k : Nat) : Int) + 1
      rw [ff_rd k f _ hlt, ff_rd k f y hy, fd_step hf hy (by omega)]; omega
  · obtain ⟨i, hi, rfl⟩ := ring_mem he
    have hlt : (i + 1) % k < k := Nat.mod_lt _ (by omega)
    show 0 ≤ rd (ff k f) (i : Int) ∧ rd (ff k f) (i : Int) ≤ rd (ff k f) (((i + 1) % k : Nat) : Int) + 1
    rw [ff_rd k f _ hlt, ff_rd k f i hi]
    by_cases e : i = f
    · subst e
      have : fd k i i = 0 := by unfold fd; rw [if_pos (Nat.le_refl _), Nat.sub_self]
      rw [this]; omega
    · have := fd_step hf hi e
      omega
def wl (k : Nat) : Nat → Nat → List Int
  | 0, _ => []
  | d + 1, a => (a : Int) :: wl k d ((a + 1) % k)
theorem ring_way (k f : Nat) (neg : List Int) (hf : f < k) : ∀ (d x : Nat), x < k → fd k f x = d → IsWay (ringE k neg) (f : Int) (ff k f) (wl k d x) (x : Int)
  | 0, x, hx, hd => by
    show (x : Int) = (f : Int)
    unfold fd at hd
    split at hd <;> omega
  | d + 1, x, hx, hd => by
    have hne : x ≠ f := fun e => by
      subst e
      unfold fd at hd
      rw [if_pos (Nat.le_refl _)] at hd; omega
    have hlt : (x + 1) % k < k := Nat.mod_lt _ (by omega)
    have hs := fd_step hf hx hne
    refine ⟨rfl, by omega, (((x + 1) % k : Nat) : Int), ⟨⟨rowE k neg x, ring_in hx, ⟨rfl, ?_⟩, rfl⟩, fun e he hn => ?_⟩, ring_way k f neg hf d _ hlt (by omega)⟩
    · show rd (ff k f) (((x + 1) % k : Nat) : Int) = _
      rw [ff_rd k f _ hlt, ff_rd k f x hx]; omega
    · obtain ⟨i, hi, rfl⟩ := ring_mem he
      have h1 : (i : Int) = (x : Int) := hn.1
      have : i = x := by omega
      subst this
      exact Int.le_refl _
theorem wl_range (k f : Nat) : ∀ d j, wl k d ((f + j) % k) = (List.range' j d).map fun i => (((f + i) % k : Nat) : Int)
  | 0, j => rfl
  | d + 1, j => by
    have h := wl_range k f d (j + 1)
    rw [wl, List.range'_succ, List.map_cons, Nat.mod_add_mod, Nat.add_assoc, h]
theorem ring_cycle (k f : Nat) (neg : List Int) (h2 : k ≤ 33) (hf : f < k) (hn : noB neg f = true) (hno : ∀ j, j < f → noB neg j = false) : CycSpec k (ringE k neg) ((List.range k).map fun i => (((f + i) % k : Nat) : Int)) := by
  have hlt : (f + 1) % k < k := Nat.mod_lt _ (by omega)
  have hd := ring_dist k f neg h2 hf
  have hlen : (ringE k neg).length = k := by simp [ringE]
  have hfd : fd k f ((f + 1) % k) = k - 1 := by
    rw [nx_eq k f hf]; unfold fd
    split <;> split <;> omega
  refine ⟨f, by omega, ?_, fun j hj hc => ?_, ff k f, wl k (k - 1) ((f + 1) % k), ?_, ?_, ?_⟩
  · rw [ring_rd k neg f hf]
    refine ⟨hn, ?_⟩
    exact hd.reach (ring_fit k neg) (fd k f ((f + 1) % k)) (((f + 1) % k : Nat) : Int) (by omega) (by omega) (ff_rd k f _ hlt)
  · rw [ring_rd k neg j (by omega)] at hc
    have h1 : noB neg j = true := hc.1
    rw [hno j hj] at h1; cases h1
  · rw [ring_rd k neg f hf]; exact hd
  · rw [ring_rd k neg f hf]; exact ring_way k f neg hf _ _ hlt hfd
  · rw [ring_rd k neg f hf, wl_range]
    obtain ⟨k, rfl⟩ : ∃ q, k = q + 1 := ⟨k - 1, by omega⟩
    rw [List.range_eq_range', List.range'_succ, List.map_cons, Nat.add_zero, Nat.mod_eq_of_lt hf, Nat.add_sub_cancel]
    rfl

/-! ## The law -/
def ffst (neg : List Int) : Nat → Int → Int
  | 0, a => a
  | c + 1, a => ffst neg c (if noB neg c = true then (c : Int) else a)
theorem ffst_spec (neg : List Int) : ∀ (c : Nat) (a : Int), (ffst neg c a = a ∧ ∀ j, j < c → noB neg j = false) ∨ ∃ f : Nat, f < c ∧ ffst neg c a = f ∧ noB neg f = true ∧ ∀ j, j < f → noB neg j = false
  | 0, a => .inl ⟨rfl, fun j hj => by omega⟩
  | c + 1, a => by
    rw [ffst]
    rcases ffst_spec neg c (if noB neg c = true then (c : Int) else a) with ⟨h1, h2⟩ | ⟨f, h1, h2, h3, h4⟩
    · cases hc : noB neg c with
      | true =>
        rw [if_pos hc] at h1
        exact .inr ⟨c, by omega, by rw [if_pos rfl]; exact h1, hc, h2⟩
      | false =>
        rw [if_neg (by rw [hc]; decide)] at h1
        refine .inl ⟨by rw [if_neg (by decide)]; exact h1, fun j hj => ?_⟩
        rcases Nat.lt_succ_iff_lt_or_eq.1 hj with hj | rfl
        · exact h2 j hj
        · exact hc
    · exact .inr ⟨f, by omega, h2, h3, h4⟩
theorem rings_l0 (K : Nat) (neg : List Int) : ∀ (c m : Nat) (a : Int), c ≤ 100 → c < m → templelaw8_LevelsRings.l0 K neg m (a, (c : Int) - 1) = some (ffst neg c a, -1)
  | 0, m, a, _, hm => by
    obtain ⟨m, rfl⟩ : ∃ q, m = q + 1 := ⟨m - 1, by omega⟩
    simp only [templelaw8_LevelsRings.l0]
    rw [if_neg (by omega)]
    rfl
  | c + 1, m, a, hc, hm => by
    obtain ⟨m, rfl⟩ : ∃ q, m = q + 1 := ⟨m - 1, by omega⟩
    have ih := fun a' => rings_l0 K neg c m a' (by omega) (by omega)
    have e0 : ((c + 1 : Nat) : Int) - 1 = (c : Int) := by omega
    have hnb : noB neg c = (if (c : Int) < (neg.length : Int) then decide (iand .i64 (rd neg (c : Int)) 1 = 1) else false) := rfl
    rw [e0, ffst]
    simp only [templelaw8_LevelsRings.l0]
    rw [if_pos (by omega), wr (a := (c : Int) - 1) (by omega) (by omega)]
    by_cases h3 : (c : Int) < (neg.length : Int)
    · rw [if_pos h3] at hnb ⊢
      by_cases h4 : iand .i64 (rd neg (c : Int)) 1 = 1
      · rw [decide_eq_true h4] at hnb
        rw [if_pos h4, if_pos hnb]; exact ih _
      · rw [decide_eq_false h4] at hnb
        have hnf : ¬ noB neg c = true := by rw [hnb]; decide
        rw [if_neg h4, if_neg hnf]; exact ih _
    · rw [if_neg h3] at hnb ⊢
      have hnf : ¬ noB neg c = true := by rw [hnb]; decide
      rw [if_neg hnf]; exact ih _
theorem rings_l1 (K : Nat) (hK : 1000 ≤ K) (many : Int) (k f : Nat) (hk : IntKind.wrap .i64 (1 + iand .i64 many 15) = (k : Int)) (h1 : 1 ≤ k) (h2 : k ≤ 33) (hf : f < k) : templelaw8_LevelsRings.l1 K many (f : Int) K ([], 0) = some ((List.range k).map fun i => (((f + i) % k : Nat) : Int), (k : Int)) := by
  have := appLoop (n := k) (c := 1) (B := 1000) (L := templelaw8_LevelsRings.l1 K many (f : Int)) (fun i => [(((f + i) % k : Nat) : Int)]) (fun i => Nat.le_refl _) (fun m s i hi hs => by
    have et : Int.tmod (IntKind.wrap .i64 ((f : Int) + (i : Int))) (k : Int) = (((f + i) % k : Nat) : Int) := by rw [wr (by omega) (by omega), Int.tmod_eq_emod_of_nonneg (by omega), Int.natCast_emod]; rfl
    simp only [templelaw8_LevelsRings.l1, List.length_singleton]
    rw [hk, if_pos (by omega), if_pos (by omega), if_pos (by omega), et, wr (a := (i : Int) + 1) (by omega) (by omega)]) (fun m s => by simp only [templelaw8_LevelsRings.l1]; rw [hk, if_neg (by omega)]) K (by omega) [] (by simp only [List.length_nil]; omega)
  rw [this, List.nil_append]
  congr 2
  induction List.range k with
  | nil => rfl
  | cons x xs ih => rw [List.flatMap_cons, List.map_cons, ih]; rfl
theorem LevelsRings_true (K : Nat) (hK : 200000 ≤ K) (many : Int) (neg : List Int) (hn : neg.length ≤ 140737488355328) : templelaw8_LevelsRings (K + 100) many neg = some true := by
  have h15 := and15 many
  have e : IntKind.wrap .i64 (1 + iand .i64 many 15) = (((1 + iand .i64 many 15).toNat : Nat) : Int) := by
    rw [h15, wr (by omega) (by omega)]; omega
  have hk1 : 1 ≤ (1 + iand .i64 many 15).toNat := by rw [h15]; omega
  have hk2 : (1 + iand .i64 many 15).toNat ≤ 33 := by rw [h15]; omega
  generalize (1 + iand .i64 many 15).toNat = k at e hk1 hk2
  obtain ⟨r, h1, h3⟩ := Strata_spec (K + 100) (by omega) (rowG k neg true)
  have hmay := row_may k neg true hk1 hk2
  have hlen : (rowG k neg true).Names.length = k := by simp [rowG]
  have hq := rings_l0 (K + 100) neg k (K + 100) (-1) (by omega) (by omega)
  unfold templelaw8_LevelsRings
  rw [e, awake8 (K + 100) (by omega), Option.bind_some, if_neg (by decide), row_spec K neg hn true k hk2, Option.bind_some, h1, Option.bind_some, wr (a := (k : Int) - 1) (by omega) (by omega), hq, Option.bind_some]
  simp only [templelaw0_Num, Option.bind_some]
  rcases ffst_spec neg k (-1) with ⟨g1, g2⟩ | ⟨f, g0, g1, g2, g3⟩
  · have hneg : ∀ e ∈ edgesOf (rowG k neg true), e.Neg = false := fun e he => by
      rw [ring_edges] at he
      obtain ⟨i, hi, rfl⟩ := ring_mem he
      exact g2 i hi
    have hfl := flat (fit_edges hmay) hneg
    rw [hlen] at hfl
    have := h3.uniq (.inr ⟨hmay, .inr ⟨fun e he hc => (by have := hneg e he; rw [hc.1] at this; cases this), _, (by rw [hlen]; exact hfl), rfl⟩⟩)
    subst this
    rw [g1, if_pos (by decide)]
    simp only
    rw [if_pos trivial, if_pos (by omega), if_pos (by omega), Int.toNat_natCast, SameInts_spec _ _ _ (by rw [List.length_replicate]; omega) (by rw [List.length_replicate]; omega), decide_eq_true rfl]
    rfl
  · have hc := ring_cycle k f neg hk2 g0 g2 g3
    have := h3.uniq (.inr ⟨hmay, .inl ⟨_, (by rw [hlen, ring_edges]; exact hc), rfl⟩⟩)
    subst this
    rw [g1, if_neg (by omega), rings_l1 (K + 100) (by omega) many k f e hk1 hk2 g0, Option.bind_some]
    simp only
    rw [if_pos trivial, if_pos (by decide), SameInts_spec _ _ _ (by rw [List.length_map, List.length_range]; omega) (by rw [List.length_map, List.length_range]; omega), decide_eq_true rfl]
    rfl
theorem LevelsRings_holds (many : Int) (neg : List Int) (_ : wfI .i64 many) (w : wfL (wfI .i64) 8 neg) : ∃ K, templelaw8_LevelsRings K many neg = some true := ⟨200000 + 100, LevelsRings_true 200000 (Nat.le_refl _) many neg (by have := w.1; rw [reach_le] at this; omega)⟩
end Go.Proofs.Ytimkikccmpgipaa
