/-
  Chapter 8: laws LevelsRows, LevelsRings. Own work; no claim stands here.
-/
import Derived.Test.YtimkikccmpgipaaPLaw8c
namespace Go.Proofs.Ytimkikccmpgipaa
open S Go.Sort
set_option linter.unusedVariables false
set_option linter.unusedSimpArgs false
set_option maxRecDepth 100000

/-! ## Names by numbers -/
def decN (i : Nat) : ByteArray := (templeref0_Decimal 100 (i : Int)).getD (⟨#[]⟩ : ByteArray)
def nameN (i : Nat) : ByteArray := (⟨#[110]⟩ : ByteArray) ++ decN i
theorem small (i : Nat) (h : i < 33) : i = 0 ∨ i = 1 ∨ i = 2 ∨ i = 3 ∨ i = 4 ∨ i = 5 ∨ i = 6 ∨ i = 7 ∨ i = 8 ∨ i = 9 ∨ i = 10 ∨ i = 11 ∨ i = 12 ∨ i = 13 ∨ i = 14 ∨ i = 15 ∨ i = 16 ∨ i = 17 ∨ i = 18 ∨ i = 19 ∨ i = 20 ∨ i = 21 ∨ i = 22 ∨ i = 23 ∨ i = 24 ∨ i = 25 ∨ i = 26 ∨ i = 27 ∨ i = 28 ∨ i = 29 ∨ i = 30 ∨ i = 31 ∨ i = 32 := by omega
theorem dec_spec (K : Nat) (i : Nat) (h : i < 33) : templeref0_Decimal (K + 100) (i : Int) = some (decN i) := by
  rcases small i h with rfl | rfl | rfl | rfl | rfl | rfl | rfl | rfl | rfl | rfl | rfl | rfl | rfl | rfl | rfl | rfl | rfl | rfl | rfl | rfl | rfl | rfl | rfl | rfl | rfl | rfl | rfl | rfl | rfl | rfl | rfl | rfl | rfl <;> kernel_rfl
theorem dec_size (i : Nat) (h : i < 33) : (decN i).size ≤ 2 := by
  have : ∀ i : Fin 33, (decN i.val).size ≤ 2 := by decide +kernel
  exact this ⟨i, h⟩
instance (c : Int) : Decidable (letterP c) := by unfold letterP; infer_instance
instance (c : Int) : Decidable (moreP c) := by unfold moreP; infer_instance
instance (s : ByteArray) : Decidable (nameP s) := by unfold nameP; infer_instance
theorem name_may (i : Nat) (h : i < 33) : nameP (nameN i) := by
  have : ∀ i : Fin 33, nameP (nameN i.val) := by decide +kernel
  exact this ⟨i, h⟩
theorem names_apart : ((List.range 33).map nameN).Nodup := by decide +kernel
theorem names_may (k : Nat) (h1 : 1 ≤ k) (h : k ≤ 33) : namesP ((List.range k).map nameN) := by
  refine ⟨by simp; omega, by simp; omega, fun s hs => ?_, ?_⟩
  · obtain ⟨i, hi, rfl⟩ := List.mem_map.1 hs
    exact name_may i (by have := List.mem_range.1 hi; omega)
  · have : (List.range k).Sublist (List.range 33) := by
      have e : List.range k = (List.range 33).take k := by rw [List.take_range]; congr 1; omega
      rw [e]; exact List.take_sublist _ _
    exact names_apart.sublist (this.map nameN)

/-! ## The row -/
def noB (neg : List Int) (i : Nat) : Bool := if (i : Int) < (neg.length : Int) then decide (iand .i64 (rd neg (i : Int)) 1 = 1) else false
def lst (ring : Bool) (k : Nat) : Nat := if ring = true then k else k - 1
def cjN (k : Nat) (neg : List Int) (i : Nat) : Conjunct := ⟨noB neg i, [⟨(((i + 1) % k : Nat) : Int), 0, 0⟩]⟩
def rowR (k : Nat) (neg : List Int) (ring : Bool) (i : Nat) : Rule := ⟨i, if i < lst ring k then [⟨false, []⟩] ++ [cjN k neg i] else [⟨false, []⟩]⟩
def rowE (k : Nat) (neg : List Int) (i : Nat) : Edge := ⟨i, (((i + 1) % k : Nat) : Int), noB neg i⟩
def rowG (k : Nat) (neg : List Int) (ring : Bool) : Grammar := ⟨0, (List.range k).map nameN, (List.range k).map (rowR k neg ring)⟩
theorem lst_le (ring : Bool) (k : Nat) : lst ring k ≤ k := by unfold lst; split <;> omega
theorem row_ruleP (k : Nat) (neg : List Int) (ring : Bool) (i : Nat) (hi : i < k) : ruleP (k : Int) (rowR k neg ring i) := by
  have h0 : conjP (k : Int) (⟨false, []⟩ : Conjunct) := ⟨by simp, fun s hs => by cases hs⟩
  have hlt : (i + 1) % k < k := Nat.mod_lt _ (by omega)
  unfold rowR
  split
  · rename_i h
    refine ⟨by simp, by simp, fun c hc => ?_⟩
    simp only [List.cons_append, List.nil_append, List.mem_cons, List.not_mem_nil, or_false] at hc
    rcases hc with rfl | rfl
    · exact h0
    · refine ⟨by simp [cjN], fun s hs => ?_⟩
      simp only [cjN, List.mem_cons, List.not_mem_nil, or_false, or_self] at hs
      subst hs
      exact .inr ⟨by simp only; omega, by simp only; omega, rfl, rfl⟩
  · refine ⟨by simp, by simp, fun c hc => ?_⟩
    simp only [List.mem_cons, List.not_mem_nil, or_false] at hc
    subst hc; exact h0
theorem row_sum (k : Nat) (neg : List Int) (ring : Bool) (i : Nat) : sumR (rowR k neg ring i) ≤ 2 := by
  unfold sumR rowR
  split <;> simp [sumC, cjN]
theorem row_total (k : Nat) (neg : List Int) (ring : Bool) : ∀ is : List Nat, total (is.map (rowR k neg ring)) ≤ 2 * is.length
  | [] => by simp [total]
  | i :: is => by
    have := row_sum k neg ring i
    have := row_total k neg ring is
    rw [List.map_cons, total, List.length_cons]; omega
theorem row_chain (k : Nat) (neg : List Int) (ring : Bool) : ∀ (m j : Nat), j + m = k → 0 < m → chainP (k : Int) ((j : Int) - 1) ((List.range' j m).map (rowR k neg ring))
  | 0, j, hj, hm => by omega
  | m + 1, j, hj, _ => by
    rw [List.range'_succ, List.map_cons, chainP]
    refine ⟨row_ruleP k neg ring j (by omega), .inr (by show (j : Int) = _; omega), ?_⟩
    show chainP (k : Int) (j : Int) _
    cases m with
    | zero => show (j : Int) = (k : Int) - 1; omega
    | succ m =>
      have := row_chain k neg ring (m + 1) (j + 1) (by omega) (by omega)
      have e : ((j + 1 : Nat) : Int) - 1 = (j : Int) := by omega
      rw [e] at this; exact this
theorem row_may (k : Nat) (neg : List Int) (ring : Bool) (h1 : 1 ≤ k) (h2 : k ≤ 33) : mayP (rowG k neg ring) := by
  refine ⟨names_may k h1 h2, Int.le_refl _, by simp [rowG]; omega, by simp [rowG]; omega, by simp [rowG]; omega, ?_, ?_, ?_⟩
  · obtain ⟨k, rfl⟩ : ∃ q, k = q + 1 := ⟨k - 1, by omega⟩
    show (rd ((List.range (k + 1)).map (rowR (k + 1) neg ring)) 0).Head = 0
    rw [List.range_eq_range', List.range'_succ]; rfl
  · have := row_chain k neg ring k 0 (by omega) (by omega)
    have e : (rowG k neg ring).Names.length = k := by simp [rowG]
    rw [e]
    show chainP (k : Int) (-1) ((List.range k).map (rowR k neg ring))
    rw [List.range_eq_range']; exact this
  · have := row_total k neg ring (List.range k)
    rw [List.length_range] at this
    show total ((List.range k).map (rowR k neg ring)) ≤ 1024
    omega
theorem row_occ (k : Nat) (neg : List Int) (ring : Bool) (e : Edge) : e ∈ (List.range (lst ring k)).map (rowE k neg) ↔ Occ (rowG k neg ring) e := by
  have hle := lst_le ring k
  unfold Occ OccR OccC OccS
  simp only [List.mem_map, List.mem_range]
  constructor
  · rintro ⟨i, hi, rfl⟩
    refine ⟨rowR k neg ring i, List.mem_map.2 ⟨i, List.mem_range.2 (by omega), rfl⟩, cjN k neg i, ?_, ⟨(((i + 1) % k : Nat) : Int), 0, 0⟩, .head _, by simp only; omega, rfl⟩
    unfold rowR
    rw [if_pos hi]
    exact List.mem_append_right _ (.head _)
  · rintro ⟨r, hr, c, hc, s, hs, h0, rfl⟩
    obtain ⟨i, hi, rfl⟩ := List.mem_map.1 hr
    have hi := List.mem_range.1 hi
    unfold rowR at hc
    split at hc
    · rename_i h
      simp only [List.cons_append, List.nil_append, List.mem_cons, List.not_mem_nil, or_false] at hc
      rcases hc with rfl | rfl
      · cases hs
      · simp only [cjN, List.mem_cons, List.not_mem_nil, or_false, or_self] at hs
        subst hs
        exact ⟨i, h, rfl⟩
    · simp only [List.mem_cons, List.not_mem_nil, or_false] at hc
      subst hc; cases hs
theorem row_edges (k : Nat) (neg : List Int) (ring : Bool) : edgesOf (rowG k neg ring) = (List.range (lst ring k)).map (rowE k neg) := by
  refine edgesOf_is _ ?_ fun e => row_occ k neg ring e
  rw [List.pairwise_map]
  exact List.pairwise_lt_range.imp fun {a b} h => .inl (by show (a : Int) < (b : Int); omega)
theorem row_l0 (K : Nat) (neg : List Int) (hn : neg.length ≤ 140737488355328) (ring : Bool) (k : Nat) (h2 : k ≤ 33) : ∀ (n i m : Nat), i + n = k → n < m →
    templelaw8_row.l0 (K + 100) (k : Int) neg ring m ((List.range i).map (rowR k neg ring), (List.range i).map nameN, (i : Int)) = some ((List.range k).map (rowR k neg ring), (List.range k).map nameN, (k : Int))
  | 0, i, m, hi, hm => by
    obtain ⟨m, rfl⟩ : ∃ q, m = q + 1 := ⟨m - 1, by omega⟩
    have : i = k := by omega
    subst this
    simp only [templelaw8_row.l0]
    rw [if_neg (by omega)]
  | n + 1, i, m, hi, hm => by
    obtain ⟨m, rfl⟩ : ∃ q, m = q + 1 := ⟨m - 1, by omega⟩
    have ih := row_l0 K neg hn ring k h2 n (i + 1) m (by omega) (by omega)
    have hd := dec_size i (by omega)
    have e1 : (⟨#[110]⟩ : ByteArray) ++ decN i = nameN i := rfl
    have s1 : ((⟨#[110]⟩ : ByteArray).size : Int) = 1 := rfl
    have en : (List.range i).map nameN ++ [nameN i] = (List.range (i + 1)).map nameN := by rw [List.range_succ, List.map_append]; rfl
    have et : Int.tmod ((i : Int) + 1) (k : Int) = (((i + 1) % k : Nat) : Int) := by rw [Int.tmod_eq_emod_of_nonneg (by omega), Int.natCast_emod]; rfl
    have er : (List.range i).map (rowR k neg ring) ++ [rowR k neg ring i] = (List.range (i + 1)).map (rowR k neg ring) := by rw [List.range_succ, List.map_append]; rfl
    have L1 : ∀ b : Bool, b = noB neg i → i < lst ring k → (⟨(i : Int), ([(⟨false, ([] : (List Symbol))⟩ : Conjunct)] : List Conjunct) ++ ([(⟨b, ([(⟨(((i + 1) % k : Nat) : Int), (0 : Int), (0 : Int)⟩ : Symbol)] : List Symbol)⟩ : Conjunct)] : List Conjunct)⟩ : Rule) = rowR k neg ring i := fun b hb hl => by
      unfold rowR; rw [if_pos hl, hb]; rfl
    have L2 : ¬ i < lst ring k → (⟨(i : Int), ([(⟨false, ([] : (List Symbol))⟩ : Conjunct)] : List Conjunct)⟩ : Rule) = rowR k neg ring i := fun hl => by
      unfold rowR; rw [if_neg hl]
    have b1 : (1 + 1) * 32 ≤ 140737488355328 := by decide
    have b2 : (((List.range i).map (rowR k neg ring)).length + 1) * 32 ≤ 140737488355328 := by rw [List.length_map, List.length_range]; omega
    have b3 : (((List.range i).map nameN).length + 1) * 16 ≤ 140737488355328 := by rw [List.length_map, List.length_range]; omega
    have hb1 : (i : Int) < (neg.length : Int) → decide (iand .i64 (rd neg (i : Int)) 1 = 1) = noB neg i := fun h => by unfold noB; rw [if_pos h]
    have hb2 : ¬ (i : Int) < (neg.length : Int) → false = noB neg i := fun h => by unfold noB; rw [if_neg h]
    simp only [templelaw8_row.l0, List.length_singleton]
    rw [if_pos (by omega), dec_spec K i (by omega), Option.bind_some, if_pos (by omega), e1, if_pos b3, wr (a := (i : Int) + 1) (by omega) (by omega), en, et]
    by_cases hi1 : i + 1 < k
    · have hl : i < lst ring k := by unfold lst; split <;> omega
      rw [if_pos (by omega)]
      by_cases hneg : (i : Int) < (neg.length : Int)
      · rw [if_pos hneg, if_pos (by omega), if_pos (by omega), if_pos b1, if_pos b2, L1 _ (hb1 hneg) hl, er]
        simpa using ih
      · rw [if_neg hneg, if_pos (by omega), if_pos b1, if_pos b2, L1 _ (hb2 hneg) hl, er]
        simpa using ih
    · rw [if_neg (by omega)]
      cases ring with
      | true =>
        have hl : i < lst true k := by unfold lst; rw [if_pos rfl]; omega
        rw [if_pos rfl]
        by_cases hneg : (i : Int) < (neg.length : Int)
        · rw [if_pos hneg, if_pos (by omega), if_pos (by omega), if_pos b1, if_pos b2, L1 _ (hb1 hneg) hl, er]
          simpa using ih
        · rw [if_neg hneg, if_pos (by omega), if_pos b1, if_pos b2, L1 _ (hb2 hneg) hl, er]
          simpa using ih
      | false =>
        have hl : ¬ i < lst false k := by unfold lst; rw [if_neg (by decide)]; omega
        rw [if_neg (by decide), if_pos b2, L2 hl, er]
        simpa using ih
theorem row_spec (K : Nat) (neg : List Int) (hn : neg.length ≤ 140737488355328) (ring : Bool) (k : Nat) (h2 : k ≤ 33) : templelaw8_row (K + 100) (k : Int) neg ring = some (rowG k neg ring) := by
  have h1 := row_l0 K neg hn ring k h2 k 0 (K + 100) (by omega) (by omega)
  have h1' : templelaw8_row.l0 (K + 100) (k : Int) neg ring (K + 100) (([] : List Rule), ([] : List ByteArray), 0) = some ((List.range k).map (rowR k neg ring), (List.range k).map nameN, (k : Int)) := h1
  unfold templelaw8_row
  rw [h1']
  rfl

/-! ## A row: levels count the negations -/
def cb (neg : List Int) : Nat → Nat → Nat
  | 0, _ => 0
  | m + 1, i => (if noB neg i = true then 1 else 0) + cb neg m (i + 1)
theorem cb_le (neg : List Int) : ∀ m i, cb neg m i ≤ m
  | 0, _ => Nat.le_refl _
  | m + 1, i => by have := cb_le neg m (i + 1); rw [cb]; split <;> omega
def rowL (k : Nat) (neg : List Int) : List Int := (List.range k).map fun i => (cb neg (k - 1 - i) i : Int)
theorem rowL_rd (k : Nat) (neg : List Int) (i : Nat) (h : i < k) : rd (rowL k neg) (i : Int) = (cb neg (k - 1 - i) i : Int) := by
  rw [rd_nat, List.getD_eq_getElem?_getD]
  unfold rowL
  rw [List.getElem?_map, List.getElem?_range h]; rfl
theorem row_edge {k : Nat} {neg : List Int} {e : Edge} (h : e ∈ (List.range (lst false k)).map (rowE k neg)) : ∃ i : Nat, i + 1 < k ∧ e = ⟨(i : Int), ((i + 1 : Nat) : Int), noB neg i⟩ := by
  obtain ⟨i, hi, rfl⟩ := List.mem_map.1 h
  have hi := List.mem_range.1 hi
  have : i + 1 < k := by unfold lst at hi; rw [if_neg (by decide)] at hi; omega
  exact ⟨i, this, by unfold rowE; rw [Nat.mod_eq_of_lt this]⟩
theorem row_out (k : Nat) (neg : List Int) (h1 : 1 ≤ k) (h2 : k ≤ 33) : StrOut (rowG k neg false) (rowL k neg, [], 0) := by
  have hlen : (rowG k neg false).Names.length = k := by simp [rowG]
  refine .inr ⟨row_may k neg false h1 h2, .inr ⟨?_, _, ⟨⟨by rw [hlen]; simp [rowL], ?_, ?_⟩, ?_⟩, rfl⟩⟩
  · rw [row_edges]
    have up : ∀ {x y : Int}, Reach ((List.range (lst false k)).map (rowE k neg)) x y → x ≤ y := by
      intro x y h
      induction h with
      | refl => exact Int.le_refl _
      | step _ he ih =>
        obtain ⟨i, hi, rfl⟩ := row_edge he
        simp only at ih ⊢
        omega
    intro e he hc
    obtain ⟨i, hi, rfl⟩ := row_edge he
    have := up hc.2
    simp only at this
    omega
  · intro i a b
    rw [hlen] at b
    obtain ⟨j, rfl⟩ := Int.eq_ofNat_of_zero_le a
    rw [rowL_rd k neg j (by omega)]; omega
  · rw [row_edges, hlen]
    intro P hP hp i a b
    obtain ⟨j, rfl⟩ := Int.eq_ofNat_of_zero_le a
    rw [rowL_rd k neg j (by omega)]
    have key : ∀ m j : Nat, j + m + 1 = k → (cb neg m j : Int) ≤ P (j : Int) := by
      intro m
      induction m with
      | zero => intro j hj; exact hp j (by omega) (by omega)
      | succ m ih =>
        intro j hj
        have h3 := ih (j + 1) (by omega)
        have h4 := hP (rowE k neg j) (List.mem_map.2 ⟨j, List.mem_range.2 (by unfold lst; rw [if_neg (by decide)]; omega), rfl⟩)
        unfold rowE ng at h4
        rw [Nat.mod_eq_of_lt (by omega)] at h4
        simp only at h4
        rw [cb]
        split at h4 <;> split <;> simp_all <;> omega
    exact key (k - 1 - j) j (by omega)
  · rw [row_edges]
    intro e he
    obtain ⟨i, hi, rfl⟩ := row_edge he
    simp only [ng]
    rw [rowL_rd k neg i (by omega), rowL_rd k neg (i + 1) hi]
    have e1 : k - 1 - i = (k - 1 - (i + 1)) + 1 := by omega
    rw [e1, cb]
    split <;> simp_all <;> omega
theorem lrow_l0 (K : Nat) (many : Int) (neg : List Int) (hn : neg.length ≤ 140737488355328) (k : Nat) (hk : IntKind.wrap .i64 (1 + iand .i64 many 31) = (k : Int)) (h2 : k ≤ 33) : ∀ (c m : Nat) (a : Int), c ≤ k → c < m → a = (if c < k then (cb neg (k - 1 - c) c : Int) else 0) →
    ∃ q, templelaw8_LevelsRows.l0 K many neg (rowL k neg, [], 0) m (a, (c : Int) - 1) = some (.inl q)
  | 0, m, a, _, hm, _ => by
    obtain ⟨m, rfl⟩ : ∃ q, m = q + 1 := ⟨m - 1, by omega⟩
    simp only [templelaw8_LevelsRows.l0]
    rw [if_neg (by omega)]
    exact ⟨_, rfl⟩
  | c + 1, m, a, hc, hm, ha => by
    obtain ⟨m, rfl⟩ : ∃ q, m = q + 1 := ⟨m - 1, by omega⟩
    have ih := fun a' h => lrow_l0 K many neg hn k hk h2 c m a' (by omega) (by omega) h
    have e0 : ((c + 1 : Nat) : Int) - 1 = (c : Int) := by omega
    have hlen : (rowL k neg).length = k := by simp [rowL]
    have hr := rowL_rd k neg c (by omega)
    have hle := cb_le neg (k - 1 - (c + 1)) (c + 1)
    rw [e0]
    simp only [templelaw8_LevelsRows.l0]
    rw [hk, if_pos (by omega), wr (a := (c : Int) + 1) (by omega) (by omega), wr (a := (c : Int) - 1) (by omega) (by omega), hlen, hr]
    rw [if_pos (show c < k by omega)] at ih
    by_cases h1 : c + 1 < k
    · rw [if_pos h1] at ha
      have e1 : k - 1 - c = (k - 1 - (c + 1)) + 1 := by omega
      rw [e1, cb] at ih ⊢
      have hnb : noB neg c = (if (c : Int) < (neg.length : Int) then decide (iand .i64 (rd neg (c : Int)) 1 = 1) else false) := rfl
      rw [if_pos (show (c : Int) + 1 < (k : Int) by omega)]
      by_cases h3 : (c : Int) < (neg.length : Int)
      · rw [if_pos h3] at hnb ⊢
        by_cases h4 : iand .i64 (rd neg (c : Int)) 1 = 1
        · rw [decide_eq_true h4] at hnb
          rw [if_pos hnb] at ih ⊢
          rw [if_pos h4, if_pos (show (c : Int) < (k : Int) by omega), wr (a := a + 1) (by omega) (by omega), if_neg (fun h => h (by omega))]
          exact ih _ (by omega)
        · rw [decide_eq_false h4] at hnb
          have hnf : ¬ noB neg c = true := by rw [hnb]; decide
          rw [if_neg hnf] at ih ⊢
          rw [if_neg h4, if_pos (show (c : Int) < (k : Int) by omega), if_neg (fun h => h (by omega))]
          exact ih _ (by omega)
      · rw [if_neg h3] at hnb ⊢
        have hnf : ¬ noB neg c = true := by rw [hnb]; decide
        rw [if_neg hnf] at ih ⊢
        rw [if_pos (show (c : Int) < (k : Int) by omega), if_neg (fun h => h (by omega))]
        exact ih _ (by omega)
    · rw [if_neg h1] at ha
      have e1 : k - 1 - c = 0 := by omega
      rw [e1, cb] at ih ⊢
      rw [if_neg (show ¬ (c : Int) + 1 < (k : Int) by omega), if_pos (show (c : Int) < (k : Int) by omega), if_neg (fun h => h (by omega))]
      exact ih _ (by omega)
theorem LevelsRows_true (K : Nat) (hK : 200000 ≤ K) (many : Int) (neg : List Int) (hn : neg.length ≤ 140737488355328) : templelaw8_LevelsRows (K + 100) many neg = some true := by
  have h31 := and31 many
  have e : IntKind.wrap .i64 (1 + iand .i64 many 31) = (((1 + iand .i64 many 31).toNat : Nat) : Int) := by
    rw [h31, wr (by omega) (by omega)]; omega
  have hk1 : 1 ≤ (1 + iand .i64 many 31).toNat := by rw [h31]; omega
  have hk2 : (1 + iand .i64 many 31).toNat ≤ 33 := by rw [h31]; omega
  generalize (1 + iand .i64 many 31).toNat = k at e hk1 hk2
  obtain ⟨r, h1, h3⟩ := Strata_spec (K + 100) (by omega) (rowG k neg false)
  have := h3.uniq (row_out k neg hk1 hk2)
  subst this
  obtain ⟨q, hq⟩ := lrow_l0 (K + 100) many neg hn k e hk2 k (K + 100) 0 (Nat.le_refl _) (by omega) (by rw [if_neg (by omega)])
  have hlen : (rowL k neg).length = k := by simp [rowL]
  unfold templelaw8_LevelsRows
  rw [e, awake8 (K + 100) (by omega), Option.bind_some, if_neg (by decide), row_spec K neg hn false k hk2, Option.bind_some, h1, Option.bind_some]
  simp only [templelaw0_Num, Option.bind_some]
  rw [if_neg (fun h => h rfl), if_neg (fun h => h rfl), if_neg (fun h => h (by rw [hlen])), wr (a := (k : Int) - 1) (by omega) (by omega), hq]
  rfl
theorem LevelsRows_holds (many : Int) (neg : List Int) (_ : wfI .i64 many) (w : wfL (wfI .i64) 8 neg) : ∃ K, templelaw8_LevelsRows K many neg = some true := ⟨200000 + 100, LevelsRows_true 200000 (Nat.le_refl _) many neg (by have := w.1; rw [reach_le] at this; omega)⟩
end Go.Proofs.Ytimkikccmpgipaa
