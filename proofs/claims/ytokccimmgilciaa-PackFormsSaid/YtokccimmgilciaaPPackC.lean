/-
  What the reference's Put comes to, in plain Lean. Own work; no claim stands here.
-/
import Derived.Test.YtokccimmgilciaaPPackB
namespace Go.Proofs.Ytokccimmgilciaa
open S
set_option linter.unusedVariables false
set_option linter.unusedSimpArgs false
set_option maxRecDepth 100000

/-! ### Bytes -/
def Byt (xs : List Int) : Prop := ∀ v ∈ xs, 0 ≤ v ∧ v < 256
theorem strL_app (a b : List Int) : strL a ++ strL b = strL (a ++ b) := by
  apply ByteArray.ext
  simp [strL]
theorem strL_size (a : List Int) : (strL a).size = a.length := by simp [strL, ByteArray.size]
theorem byt_back {xs : List Int} (h : Byt xs) : bytesL (strL xs) = xs := by
  unfold bytesL strL
  simp only [List.map_map]
  conv => rhs; rw [← List.map_id xs]
  apply List.map_congr_left
  intro v hv
  obtain ⟨h0, h1⟩ := h v hv
  simp only [Function.comp, id]
  have : (UInt8.ofNat v.toNat).toNat = v.toNat % 256 := by simp
  rw [this]
  omega
theorem bytesL_byt (s : ByteArray) : Byt (bytesL s) := by
  intro v hv
  obtain ⟨b, _, rfl⟩ := List.mem_map.1 hv
  have := b.toNat_lt
  omega
theorem strL_bytesL (s : ByteArray) : strL (bytesL s) = s := by
  apply ByteArray.ext
  unfold strL bytesL
  simp only [List.map_map]
  apply Array.ext'
  simp only [List.toList_toArray]
  conv => rhs; rw [← List.map_id s.data.toList]
  apply List.map_congr_left
  intro b _
  simp
theorem strL_inj {a b : List Int} (ha : Byt a) (hb : Byt b) (h : strL a = strL b) : a = b := by rw [← byt_back ha, ← byt_back hb, h]
theorem Byt.app {a b : List Int} (ha : Byt a) (hb : Byt b) : Byt (a ++ b) := fun v hv => (List.mem_append.1 hv).elim (ha v) (hb v)
theorem byt_app {a b : List Int} : Byt (a ++ b) ↔ Byt a ∧ Byt b := ⟨fun h => ⟨fun v hv => h v (List.mem_append_left _ hv), fun v hv => h v (List.mem_append_right _ hv)⟩, fun h => h.1.app h.2⟩
theorem byt1 {x : Int} (h : F1 x) : Byt (B1 x) := by intro v hv; simp [B1] at hv; subst hv; exact h
theorem byt2 {x : Int} (h : F2 x) : Byt (B2 x) := by
  obtain ⟨h0, h1⟩ := h
  intro v hv; simp [B2] at hv; rcases hv with rfl | rfl <;> omega
theorem byt4 {x : Int} (h : F4 x) : Byt (B4 x) := by
  obtain ⟨h0, h1⟩ := h
  intro v hv; simp [B4] at hv; rcases hv with rfl | rfl | rfl | rfl <;> omega

/-! ### be, fit -/
theorem be_step (K m : Nat) (xs : List Int) (x : Int) (i : Nat) (hi : i < xs.length) (h4 : i ≤ 4) : templeref18_be.l0 K (m + 1) (xs, x, (i : Int)) = templeref18_be.l0 K m (xs.set i (x % 256), x / 256, (i : Int) - 1) := by
  simp only [templeref18_be.l0]
  rw [if_pos (Int.natCast_nonneg i), if_pos (by omega), and255, w8, wr (a := (i : Int) - 1) (by omega) (by omega)]
  have h8 := ishr_i64 x 8 (by omega)
  rw [show ((8 : Nat) : Int) = 8 from rfl] at h8
  rw [h8, fd _ _ (by decide), Int.emod_emod]
  rfl
theorem be_end (K m : Nat) (xs : List Int) (x : Int) : templeref18_be.l0 K (m + 1) (xs, x, -1) = some (xs, x, -1) := by simp only [templeref18_be.l0]; rfl

theorem be1 (K : Nat) (hK : 6 ≤ K) (x : Int) (h : F1 x) : templeref18_be K x 1 = some (strL (B1 x)) := by
  obtain ⟨m, rfl⟩ : ∃ m, K = m + 6 := ⟨K - 6, by omega⟩
  unfold templeref18_be
  rw [if_pos (by decide), if_pos (by decide), wr (a := (1 : Int) - 1) (by decide) (by decide)]
  rw [show ((1 : Int) - 1) = ((0 : Nat) : Int) from rfl, be_step _ _ _ _ 0 (by simp) (by omega), show ((0 : Nat) : Int) - 1 = -1 from rfl, be_end]
  obtain ⟨h0, h1⟩ := h
  have : x % 256 = x := by omega
  simp [B1, this, List.replicate]
theorem be2 (K : Nat) (hK : 6 ≤ K) (x : Int) (h : F2 x) : templeref18_be K x 2 = some (strL (B2 x)) := by
  obtain ⟨m, rfl⟩ : ∃ m, K = m + 6 := ⟨K - 6, by omega⟩
  unfold templeref18_be
  rw [if_pos (by decide), if_pos (by decide), wr (a := (2 : Int) - 1) (by decide) (by decide)]
  rw [show ((2 : Int) - 1) = ((1 : Nat) : Int) from rfl, be_step _ _ _ _ 1 (by simp) (by omega), show ((1 : Nat) : Int) - 1 = ((0 : Nat) : Int) from rfl, be_step _ _ _ _ 0 (by simp) (by omega), show ((0 : Nat) : Int) - 1 = -1 from rfl, be_end]
  obtain ⟨h0, h1⟩ := h
  have : x / 256 % 256 = x / 256 := by omega
  simp [B2, this, List.replicate]
theorem be4 (K : Nat) (hK : 6 ≤ K) (x : Int) (h : F4 x) : templeref18_be K x 4 = some (strL (B4 x)) := by
  obtain ⟨m, rfl⟩ : ∃ m, K = m + 6 := ⟨K - 6, by omega⟩
  unfold templeref18_be
  rw [if_pos (by decide), if_pos (by decide), wr (a := (4 : Int) - 1) (by decide) (by decide)]
  rw [show ((4 : Int) - 1) = ((3 : Nat) : Int) from rfl, be_step _ _ _ _ 3 (by simp) (by omega), show ((3 : Nat) : Int) - 1 = ((2 : Nat) : Int) from rfl, be_step _ _ _ _ 2 (by simp) (by omega), show ((2 : Nat) : Int) - 1 = ((1 : Nat) : Int) from rfl, be_step _ _ _ _ 1 (by simp) (by omega), show ((1 : Nat) : Int) - 1 = ((0 : Nat) : Int) from rfl, be_step _ _ _ _ 0 (by simp) (by omega), show ((0 : Nat) : Int) - 1 = -1 from rfl, be_end]
  obtain ⟨h0, h1⟩ := h
  have e1 : x / 256 / 256 % 256 = x / 65536 % 256 := by omega
  have e2 : x / 256 / 256 / 256 % 256 = x / 16777216 := by omega
  simp [B4, e1, e2, List.replicate]

theorem fit1 (K : Nat) (x : Int) : templeref18_fit K x 1 = some (decide (F1 x)) := by
  unfold templeref18_fit F1
  by_cases h : 0 ≤ x
  · rw [if_pos h, if_pos (by decide)]
    have : ishl .i64 1 (IntKind.wrap .i64 (8 * 1)) = 256 := by decide +kernel
    rw [this]; simp [h]
  · rw [if_neg h]; simp [h]
theorem fit2 (K : Nat) (x : Int) : templeref18_fit K x 2 = some (decide (F2 x)) := by
  unfold templeref18_fit F2
  by_cases h : 0 ≤ x
  · rw [if_pos h, if_pos (by decide)]
    have : ishl .i64 1 (IntKind.wrap .i64 (8 * 2)) = 65536 := by decide +kernel
    rw [this]; simp [h]
  · rw [if_neg h]; simp [h]
theorem fit4 (K : Nat) (x : Int) : templeref18_fit K x 4 = some (decide (F4 x)) := by
  unfold templeref18_fit F4
  by_cases h : 0 ≤ x
  · rw [if_pos h, if_pos (by decide)]
    have : ishl .i64 1 (IntKind.wrap .i64 (8 * 4)) = 4294967296 := by decide +kernel
    rw [this]; simp [h]
  · rw [if_neg h]; simp [h]

/-- A loop that asks each one, and leaves at the first that says no. -/
theorem all_loop {ρ : Type} (n : Nat) (L : Nat → Int → Option (Int ⊕ ρ)) (no : ρ) (Q : Nat → Prop) (hL : ∀ m (i : Nat), i < n → ∃ b : Bool, (b = true ↔ Q i) ∧ L (m + 1) i = if b = true then L m ((i : Int) + 1) else some (.inr no)) (hend : ∀ m, L (m + 1) n = some (.inl (n : Int))) (m : Nat) (hm : n < m) :
    ∃ r, L m 0 = some r ∧ ((∀ i, i < n → Q i) → r = .inl (n : Int)) ∧ (¬ (∀ i, i < n → Q i) → r = .inr no) := by
  have := rounds (L := L) (fun s => ∃ i : Nat, s = i ∧ i ≤ n ∧ ∀ j, j < i → Q j) (fun s => n - s.toNat) (fun r => ((∀ i, i < n → Q i) → r = .inl (n : Int)) ∧ (¬ (∀ i, i < n → Q i) → r = .inr no)) (fun s m hI => ?_) m 0 ⟨0, rfl, by omega, by omega⟩ (by simp only [Int.toNat_zero]; omega)
  · exact this
  obtain ⟨i, rfl, hi, hq⟩ := hI
  rcases Nat.lt_or_ge i n with h | h
  · obtain ⟨b, hb, he⟩ := hL m i h
    rw [he]
    by_cases hbt : b = true
    · rw [if_pos hbt]
      refine .inr ⟨(i : Int) + 1, ⟨i + 1, by simp, h, fun j hj => ?_⟩, by omega, rfl⟩
      rcases Nat.lt_or_ge j i with h' | h'
      · exact hq j h'
      · have : j = i := by omega
        subst this; exact hb.1 hbt
    · rw [if_neg hbt]
      exact .inl ⟨_, rfl, fun h' => absurd (hb.2 (h' i h)) hbt, fun _ => rfl⟩
  · have : i = n := by omega
    subst this
    rw [hend]
    exact .inl ⟨_, rfl, fun _ => rfl, fun h' => absurd hq h'⟩

theorem all_mem {T : Type} [Inhabited T] {xs : List T} {Q : T → Prop} : (∀ i : Nat, i < xs.length → Q (rd xs (i : Int))) ↔ ∀ x ∈ xs, Q x := by
  constructor
  · intro h x hx
    obtain ⟨i, hi⟩ := List.getElem?_of_mem hx
    have hl : i < xs.length := by
      rcases Nat.lt_or_ge i xs.length with h | h
      · exact h
      · simp [h] at hi
    have := h i hl
    rw [rd_nat, List.getD_eq_getElem?_getD, hi] at this
    exact this
  · intro h i hi
    exact h _ (rd_mem (Int.natCast_nonneg i) (by omega))

theorem pickMay_spec (K : Nat) (p : Pick) (hk : p.Kids.length < K) (hl : p.Kids.length ≤ 9223372036854775000) : ∃ b, templeref18_pickMay K p = some b ∧ (b = true ↔ pickOk p) := by
  obtain ⟨r, h1, h2, h3⟩ := all_loop p.Kids.length (templeref18_pickMay.l0 K p) false (fun i => F4 (rd p.Kids (i : Int))) (fun m i hi => by
    refine ⟨decide (F4 (rd p.Kids (i : Int))), by simp, ?_⟩
    simp only [templeref18_pickMay.l0]
    rw [if_pos (by omega), if_pos (Int.natCast_nonneg i), fit4, Option.bind_some, wr (a := (i : Int) + 1) (by omega) (by omega)]
    by_cases h : F4 (rd p.Kids (i : Int)) <;> simp [h]) (fun m => by simp only [templeref18_pickMay.l0]; rw [if_neg (by omega)]) K hk
  rw [all_mem (Q := F4)] at h2 h3
  unfold templeref18_pickMay
  rw [h1]
  by_cases hall : ∀ k ∈ p.Kids, F4 k
  · rw [h2 hall]
    simp only [brk, Option.bind_some, fit1, fit2]
    unfold pickOk
    by_cases a1 : F2 p.At
    · rw [decide_eq_true a1, if_pos rfl]
      by_cases a2 : F1 p.Conj
      · rw [decide_eq_true a2, if_pos rfl]
        exact ⟨_, rfl, by simp only [decide_eq_true_eq, F1]; constructor; exact fun h => ⟨a1, a2, ⟨by omega, by omega⟩, hall⟩; exact fun h => by have := h.2.2.1.2; omega⟩
      · rw [decide_eq_false a2]
        exact ⟨false, rfl, by simp [a2]⟩
    · rw [decide_eq_false a1]
      exact ⟨false, rfl, by simp [a1]⟩
  · rw [h3 hall]
    refine ⟨false, rfl, by simp; exact fun h => hall h.2.2.2⟩

theorem nodeMay_spec (K : Nat) (x : Node) (hp : x.Picks.length < K) (hl : x.Picks.length ≤ 9223372036854775000) (hk : ∀ p ∈ x.Picks, p.Kids.length < K ∧ p.Kids.length ≤ 9223372036854775000) : ∃ b, templeref18_nodeMay K x = some b ∧ (b = true ↔ nodeOk x) := by
  unfold templeref18_nodeMay
  have hpre : ∃ r : Unit ⊕ Bool, (if x.Kind ≠ 0 then if x.Kind ≠ 1 then some (.inr false) else if x.Kind = 0 then if x.Place ≠ (⟨(0 : Int), (0 : Int), (0 : Int)⟩ : Place) then some (.inr false) else if x.Kind = 1 then if x.Name ≠ 0 then some (.inr false) else some (.inl ()) else some (.inl ()) else if x.Kind = 1 then if x.Name ≠ 0 then some (.inr false) else some (.inl ()) else some (.inl ()) else if x.Kind = 0 then if x.Place ≠ (⟨(0 : Int), (0 : Int), (0 : Int)⟩ : Place) then some (.inr false) else if x.Kind = 1 then if x.Name ≠ 0 then some (.inr false) else some (.inl ()) else some (.inl ()) else if x.Kind = 1 then if x.Name ≠ 0 then some (.inr false) else some (.inl ()) else some (.inl ()) : Option (Unit ⊕ Bool)) = some r ∧ ((shapeOk x ∧ r = .inl ()) ∨ (¬ shapeOk x ∧ r = .inr false)) := by
    unfold shapeOk
    by_cases k0 : x.Kind = 0
    · have k1 : x.Kind ≠ 1 := by omega
      by_cases pl : x.Place = ⟨0, 0, 0⟩
      · exact ⟨_, by simp only [k0, pl, ne_eq, not_true_eq_false, if_false, if_true]; rfl, .inl ⟨.inl ⟨k0, pl⟩, rfl⟩⟩
      · exact ⟨_, by simp only [k0, pl, ne_eq, not_true_eq_false, not_false_eq_true, if_false, if_true], .inr ⟨by simp [k0, pl], rfl⟩⟩
    · by_cases k1 : x.Kind = 1
      · by_cases nm : x.Name = 0
        · exact ⟨_, by simp only [k1, nm, ne_eq, not_true_eq_false, if_false, if_true]; rfl, .inl ⟨.inr ⟨k1, nm⟩, rfl⟩⟩
        · exact ⟨_, by simp only [k1, nm, ne_eq, not_true_eq_false, not_false_eq_true, if_false, if_true]; rfl, .inr ⟨by simp [k1, nm], rfl⟩⟩
      · exact ⟨_, by simp only [k0, k1, ne_eq, not_true_eq_false, not_false_eq_true, if_false, if_true], .inr ⟨by simp [k0, k1], rfl⟩⟩
  obtain ⟨r0, h0, hr0⟩ := hpre
  rw [h0]
  rcases hr0 with ⟨hs, rfl⟩ | ⟨hs, rfl⟩
  case inr => exact ⟨false, rfl, by simp; exact fun h => hs h.1⟩
  simp only [brk, Option.bind_some]
  by_cases hlen : (x.Picks.length : Int) ≤ 65535
  · obtain ⟨r, h1, h2, h3⟩ := all_loop x.Picks.length (templeref18_nodeMay.l0 K x) false (fun i => pickOk (rd x.Picks (i : Int))) (fun m i hi => by
      have hmem : rd x.Picks (i : Int) ∈ x.Picks := rd_mem (Int.natCast_nonneg i) (by omega)
      obtain ⟨b, b1, b2⟩ := pickMay_spec K (rd x.Picks (i : Int)) (hk _ hmem).1 (hk _ hmem).2
      refine ⟨b, b2, ?_⟩
      simp only [templeref18_nodeMay.l0]
      rw [if_pos (by omega), if_pos hlen, if_pos (Int.natCast_nonneg i), b1, Option.bind_some, wr (a := (i : Int) + 1) (by omega) (by omega)]
      cases b <;> simp) (fun m => by simp only [templeref18_nodeMay.l0]; rw [if_neg (by omega)]) K hp
    rw [all_mem (Q := pickOk)] at h2 h3
    rw [h1]
    by_cases hall : ∀ p ∈ x.Picks, pickOk p
    · rw [h2 hall]
      simp only [Option.bind_some, fit1, fit2, fit4]
      have hF : F2 (x.Picks.length : Int) := ⟨by omega, by omega⟩
      have key : nodeOk x ↔ F2 x.Name ∧ F2 x.Place.Rule ∧ F1 x.Place.Conj ∧ F1 x.Place.Pos ∧ F1 x.I ∧ F1 x.J ∧ F4 x.Rank := by
        unfold nodeOk headOk
        constructor
        · rintro ⟨_, ⟨b1, b2, b3, b4, b5, b6, b7, b8, b9⟩, _⟩
          exact ⟨b2, b3, b4, b5, b6, b7, b8⟩
        · rintro ⟨b2, b3, b4, b5, b6, b7, b8⟩
          have b1 : F1 x.Kind := by rcases hs with ⟨h, _⟩ | ⟨h, _⟩ <;> (rw [h]; exact ⟨by decide, by decide⟩)
          exact ⟨hs, ⟨b1, b2, b3, b4, b5, b6, b7, b8, hF⟩, hall⟩
      rw [key]
      by_cases b2 : F2 x.Name
      case neg => exact ⟨false, by simp [b2], by simp [b2]⟩
      by_cases b3 : F2 x.Place.Rule
      case neg => exact ⟨false, by simp [b2, b3], by simp [b3]⟩
      by_cases b4 : F1 x.Place.Conj
      case neg => exact ⟨false, by simp [b2, b3, b4], by simp [b4]⟩
      by_cases b5 : F1 x.Place.Pos
      case neg => exact ⟨false, by simp [b2, b3, b4, b5], by simp [b5]⟩
      by_cases b6 : F1 x.I
      case neg => exact ⟨false, by simp [b2, b3, b4, b5, b6], by simp [b6]⟩
      by_cases b7 : F1 x.J
      case neg => exact ⟨false, by simp [b2, b3, b4, b5, b6, b7], by simp [b7]⟩
      by_cases b8 : F4 x.Rank
      case neg => exact ⟨false, by simp [b2, b3, b4, b5, b6, b7, b8], by simp [b8]⟩
      exact ⟨true, by simp [b2, b3, b4, b5, b6, b7, b8]; omega, by simp [b2, b3, b4, b5, b6, b7, b8]⟩
    · rw [h3 hall]
      exact ⟨false, rfl, by simp; exact fun h => hall h.2.2⟩
  · -- too many: the loop is left at once
    have h1 : templeref18_nodeMay.l0 K x K 0 = some (.inl 0) := by
      obtain ⟨m, rfl⟩ : ∃ m, K = m + 1 := ⟨K - 1, by omega⟩
      simp only [templeref18_nodeMay.l0]
      rw [if_pos (by omega), if_neg hlen]
    rw [h1]
    simp only [Option.bind_some, fit1, fit2, fit4]
    have hn : ¬ nodeOk x := fun h => by have := h.2.1.2.2.2.2.2.2.2.2.2; omega
    have hd : decide ((x.Picks.length : Int) ≤ 65535) = false := decide_eq_false hlen
    refine ⟨false, ?_, by simp [hn]⟩
    rw [hd]
    repeat' split
    all_goals rfl
end Go.Proofs.Ytokccimmgilciaa
