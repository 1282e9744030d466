/-
  Law DependsRows of chapter 6, in plain Lean. Own work; no claim stands here.
-/
import Derived.Test.YtnkpelhaablheaaPDep
import Derived.Test.YtnkpelhaablheaaFF
namespace Go.Proofs.Ytnkpelhaablheaa
open S Go.Sort
set_option linter.unusedVariables false
set_option linter.unusedSimpArgs false
set_option maxRecDepth 100000

/-! ## Names by numbers -/
def decN (i : Nat) : ByteArray := (templeref0_Decimal 100 (i : Int)).getD (⟨#[]⟩ : ByteArray)
def nameN (i : Nat) : ByteArray := (⟨#[110]⟩ : ByteArray) ++ decN i
theorem small (i : Nat) (h : i < 33) : i = 0 ∨ i = 1 ∨ i = 2 ∨ i = 3 ∨ i = 4 ∨ i = 5 ∨ i = 6 ∨ i = 7 ∨ i = 8 ∨ i = 9 ∨ i = 10 ∨ i = 11 ∨ i = 12 ∨ i = 13 ∨ i = 14 ∨ i = 15 ∨ i = 16 ∨ i = 17 ∨ i = 18 ∨ i = 19 ∨ i = 20 ∨ i = 21 ∨ i = 22 ∨ i = 23 ∨ i = 24 ∨ i = 25 ∨ i = 26 ∨ i = 27 ∨ i = 28 ∨ i = 29 ∨ i = 30 ∨ i = 31 ∨ i = 32 := by omega
theorem dec_spec (K : Nat) (i : Nat) (h : i < 33) : templeref0_Decimal (K + 100) (i : Int) = some (decN i) := by
  rcases small i h with rfl | rfl | rfl | rfl | rfl | rfl | rfl | rfl | rfl | rfl | rfl | rfl | rfl | rfl | rfl | rfl | rfl | rfl | rfl | rfl | rfl | rfl | rfl | rfl | rfl | rfl | rfl | rfl | rfl | rfl | rfl | rfl | rfl <;> kernel_rfl
theorem dec_size (i : Nat) (h : i < 33) : (decN i).size ≤ 2 := by
  have : ∀ i : Fin 33, (decN i.val).size ≤ 2 := by decide +kernel
  exact this ⟨i, h⟩
instance (c : Int) : Decidable (letterP c) := by unfold letterP; infer_instance
instance (c : Int) : Decidable (moreP c) := by unfold moreP; infer_instance
instance (s : ByteArray) : Decidable (nameP s) := by unfold nameP; infer_instance
theorem name_may (i : Nat) (h : i < 33) : nameP (nameN i) := by
  have : ∀ i : Fin 33, nameP (nameN i.val) := by decide +kernel
  exact this ⟨i, h⟩
theorem names_apart : ((List.range 33).map nameN).Nodup := by decide +kernel
theorem names_may (k : Nat) (h1 : 1 ≤ k) (h : k ≤ 33) : namesP ((List.range k).map nameN) := by
  refine ⟨by simp; omega, by simp; omega, fun s hs => ?_, ?_⟩
  · obtain ⟨i, hi, rfl⟩ := List.mem_map.1 hs
    exact name_may i (by have := List.mem_range.1 hi; omega)
  · have : (List.range k).Sublist (List.range 33) := by
      have e : List.range k = (List.range 33).take k := by rw [List.take_range]; congr 1; omega
      rw [e]; exact List.take_sublist _ _
    exact names_apart.sublist (this.map nameN)

/-! ## The row -/
def noB (neg : List Int) (i : Nat) : Bool := if (i : Int) < (neg.length : Int) then decide (iand .i64 (rd neg (i : Int)) 1 = 1) else false
def cjN (neg : List Int) (i : Nat) : Conjunct := ⟨noB neg i, [⟨(i : Int) + 1, 0, 0⟩, ⟨(i : Int) + 1, 0, 0⟩]⟩
def rowR (k : Nat) (neg : List Int) (i : Nat) : Rule := ⟨i, if i + 1 < k then [⟨false, []⟩] ++ [cjN neg i] else [⟨false, []⟩]⟩
def rowE (neg : List Int) (i : Nat) : Edge := ⟨i, (i : Int) + 1, noB neg i⟩
def rowG (k : Nat) (neg : List Int) : Grammar := ⟨0, (List.range k).map nameN, (List.range k).map (rowR k neg)⟩
theorem row_ruleP (k : Nat) (neg : List Int) (i : Nat) (hi : i < k) : ruleP (k : Int) (rowR k neg i) := by
  have h0 : conjP (k : Int) (⟨false, []⟩ : Conjunct) := ⟨by simp, fun s hs => by cases hs⟩
  unfold rowR
  split
  · rename_i h
    refine ⟨by simp, by simp, fun c hc => ?_⟩
    simp only [List.cons_append, List.nil_append, List.mem_cons, List.not_mem_nil, or_false] at hc
    rcases hc with rfl | rfl
    · exact h0
    · refine ⟨by simp [cjN], fun s hs => ?_⟩
      simp only [cjN, List.mem_cons, List.not_mem_nil, or_false, or_self] at hs
      subst hs
      exact .inr ⟨by simp only; omega, by simp only; omega, rfl, rfl⟩
  · refine ⟨by simp, by simp, fun c hc => ?_⟩
    simp only [List.mem_cons, List.not_mem_nil, or_false] at hc
    subst hc; exact h0
theorem row_sum (k : Nat) (neg : List Int) (i : Nat) : sumR (rowR k neg i) ≤ 2 := by
  unfold sumR rowR
  split <;> simp [sumC, cjN]
theorem row_total (k : Nat) (neg : List Int) : ∀ is : List Nat, total (is.map (rowR k neg)) ≤ 2 * is.length
  | [] => by simp [total]
  | i :: is => by
    have := row_sum k neg i
    have := row_total k neg is
    rw [List.map_cons, total, List.length_cons]; omega
theorem row_chain (k : Nat) (neg : List Int) : ∀ (m j : Nat), j + m = k → 0 < m → chainP (k : Int) ((j : Int) - 1) ((List.range' j m).map (rowR k neg))
  | 0, j, hj, hm => by omega
  | m + 1, j, hj, _ => by
    rw [List.range'_succ, List.map_cons, chainP]
    refine ⟨row_ruleP k neg j (by omega), .inr (by show (j : Int) = _; omega), ?_⟩
    show chainP (k : Int) (j : Int) _
    cases m with
    | zero => show (j : Int) = (k : Int) - 1; omega
    | succ m =>
      have := row_chain k neg (m + 1) (j + 1) (by omega) (by omega)
      have e : ((j + 1 : Nat) : Int) - 1 = (j : Int) := by omega
      rw [e] at this; exact this
theorem row_may (k : Nat) (neg : List Int) (h1 : 1 ≤ k) (h2 : k ≤ 33) : mayP (rowG k neg) := by
  refine ⟨names_may k h1 h2, Int.le_refl _, by simp [rowG]; omega, by simp [rowG]; omega, by simp [rowG]; omega, ?_, ?_, ?_⟩
  · obtain ⟨k, rfl⟩ : ∃ q, k = q + 1 := ⟨k - 1, by omega⟩
    show (rd ((List.range (k + 1)).map (rowR (k + 1) neg)) 0).Head = 0
    rw [List.range_eq_range', List.range'_succ]; rfl
  · have := row_chain k neg k 0 (by omega) (by omega)
    have e : (rowG k neg).Names.length = k := by simp [rowG]
    rw [e]
    show chainP (k : Int) (-1) ((List.range k).map (rowR k neg))
    rw [List.range_eq_range']; exact this
  · have := row_total k neg (List.range k)
    rw [List.length_range] at this
    show total ((List.range k).map (rowR k neg)) ≤ 1024
    omega
theorem row_occ (k : Nat) (neg : List Int) (e : Edge) : e ∈ (List.range (k - 1)).map (rowE neg) ↔ Occ (rowG k neg) e := by
  unfold Occ OccR OccC OccS
  simp only [List.mem_map, List.mem_range]
  constructor
  · rintro ⟨i, hi, rfl⟩
    refine ⟨rowR k neg i, List.mem_map.2 ⟨i, List.mem_range.2 (by omega), rfl⟩, cjN neg i, ?_, ⟨(i : Int) + 1, 0, 0⟩, .head _, by simp only; omega, rfl⟩
    unfold rowR
    rw [if_pos (by omega)]
    exact List.mem_append_right _ (.head _)
  · rintro ⟨r, hr, c, hc, s, hs, h0, rfl⟩
    obtain ⟨i, hi, rfl⟩ := List.mem_map.1 hr
    have hi := List.mem_range.1 hi
    unfold rowR at hc
    split at hc
    · rename_i h
      simp only [List.cons_append, List.nil_append, List.mem_cons, List.not_mem_nil, or_false] at hc
      rcases hc with rfl | rfl
      · cases hs
      · simp only [cjN, List.mem_cons, List.not_mem_nil, or_false, or_self] at hs
        subst hs
        exact ⟨i, by omega, rfl⟩
    · simp only [List.mem_cons, List.not_mem_nil, or_false] at hc
      subst hc; cases hs
theorem row_edges (k : Nat) (neg : List Int) : edgesOf (rowG k neg) = (List.range (k - 1)).map (rowE neg) := by
  refine edgesOf_is _ ?_ fun e => row_occ k neg e
  rw [List.pairwise_map]
  exact List.pairwise_lt_range.imp fun {a b} h => .inl (by show (a : Int) < (b : Int); omega)

/-! ## The law -/
theorem min_range (i k : Nat) (h : i + 1 < k) : (List.range (min (i + 1) (k - 1))) = List.range (min i (k - 1)) ++ [i] := by
  rw [Nat.min_eq_left (by omega), Nat.min_eq_left (by omega), List.range_succ]
theorem rows_l0 (K : Nat) (many : Int) (neg : List Int) (hn : neg.length ≤ 140737488355328) (k : Nat) (hk : IntKind.wrap .i64 (2 + iand .i64 many 31) = (k : Int)) (h2 : k ≤ 33) : ∀ (n i m : Nat), i + n = k → n < m →
    templelaw6_DependsRows.l0 (K + 100) many neg m ((List.range i).map (rowR k neg), (List.range i).map nameN, (List.range (min i (k - 1))).map (rowE neg), (i : Int)) = some ((List.range k).map (rowR k neg), (List.range k).map nameN, (List.range (k - 1)).map (rowE neg), (k : Int))
  | 0, i, m, hi, hm => by
    obtain ⟨m, rfl⟩ : ∃ q, m = q + 1 := ⟨m - 1, by omega⟩
    have : i = k := by omega
    subst this
    simp only [templelaw6_DependsRows.l0]
    rw [hk, if_neg (by omega), Nat.min_eq_right (by omega)]
  | n + 1, i, m, hi, hm => by
    obtain ⟨m, rfl⟩ : ∃ q, m = q + 1 := ⟨m - 1, by omega⟩
    have ih := rows_l0 K many neg hn k hk h2 n (i + 1) m (by omega) (by omega)
    have hd := dec_size i (by omega)
    have hno : (if (i : Int) < (neg.length : Int) then if 0 ≤ (i : Int) then some (decide (iand .i64 (rd neg (i : Int)) 1 = 1)) else none else some false) = some (noB neg i) := by
      unfold noB
      split
      · rw [if_pos (Int.natCast_nonneg i)]
      · rfl
    simp only [templelaw6_DependsRows.l0]
    have e1 : (⟨#[110]⟩ : ByteArray) ++ decN i = nameN i := rfl
    have s1 : ((⟨#[110]⟩ : ByteArray).size : Int) = 1 := rfl
    rw [hk, if_pos (by omega), dec_spec K i (by omega), Option.bind_some, if_pos (by omega), if_pos (by simp only [List.length_map, List.length_range, List.length_cons, List.length_nil]; omega), hno, Option.bind_some, wr (a := (i : Int) + 1) (by omega) (by omega), e1]
    have en : (List.range i).map nameN ++ [nameN i] = (List.range (i + 1)).map nameN := by rw [List.range_succ, List.map_append]; rfl
    rw [en]
    by_cases hi1 : i + 1 < k
    · rw [if_pos (by omega), if_pos (by simp only [List.length_cons, List.length_nil]; omega), if_pos (by simp only [List.length_map, List.length_range, List.length_cons, List.length_nil]; omega), if_pos (by simp only [List.length_map, List.length_range, List.length_cons, List.length_nil]; omega)]
      have er : (List.range i).map (rowR k neg) ++ [(⟨(i : Int), ([(⟨false, ([] : (List Symbol))⟩ : Conjunct)] : List Conjunct) ++ ([(⟨noB neg i, ([(⟨(i : Int) + 1, (0 : Int), (0 : Int)⟩ : Symbol), (⟨(i : Int) + 1, (0 : Int), (0 : Int)⟩ : Symbol)] : List Symbol)⟩ : Conjunct)] : List Conjunct)⟩ : Rule)] = (List.range (i + 1)).map (rowR k neg) := by
        rw [List.range_succ, List.map_append]
        congr 1
        show _ = [rowR k neg i]
        unfold rowR
        rw [if_pos hi1]; rfl
      have ee : (List.range (min i (k - 1))).map (rowE neg) ++ [(⟨(i : Int), (i : Int) + 1, noB neg i⟩ : Edge)] = (List.range (min (i + 1) (k - 1))).map (rowE neg) := by
        rw [min_range i k hi1, List.map_append]; rfl
      rw [er, ee]
      simpa using ih
    · rw [if_neg (by omega), if_pos (by simp only [List.length_map, List.length_range, List.length_cons, List.length_nil]; omega)]
      have er : (List.range i).map (rowR k neg) ++ [(⟨(i : Int), ([(⟨false, ([] : (List Symbol))⟩ : Conjunct)] : List Conjunct)⟩ : Rule)] = (List.range (i + 1)).map (rowR k neg) := by
        rw [List.range_succ, List.map_append]
        congr 1
        show _ = [rowR k neg i]
        unfold rowR
        rw [if_neg hi1]
      have em : min i (k - 1) = min (i + 1) (k - 1) := by omega
      rw [er, em]
      simpa using ih
theorem DependsRows_true (K : Nat) (hK : 200000 ≤ K) (many : Int) (neg : List Int) (hn : neg.length ≤ 140737488355328) : templelaw6_DependsRows (K + 100) many neg = some true := by
  have h31 := and31 many
  have e : IntKind.wrap .i64 (2 + iand .i64 many 31) = (((2 + iand .i64 many 31).toNat : Nat) : Int) := by
    rw [h31, wr (by omega) (by omega)]; omega
  have hk1 : 2 ≤ (2 + iand .i64 many 31).toNat := by rw [h31]; omega
  have hk2 : (2 + iand .i64 many 31).toNat ≤ 33 := by rw [h31]; omega
  generalize (2 + iand .i64 many 31).toNat = k at e hk1 hk2
  have h1 := rows_l0 K many neg hn k e hk2 k 0 (K + 100) (by omega) (by omega)
  rw [Nat.zero_min, show ((0 : Nat) : Int) = 0 from rfl] at h1
  obtain ⟨b, hb, _, _, he, _⟩ := Edges_both (K + 100) (by omega) (rowG k neg)
  have hbt := hb.2 (row_may k neg (by omega) hk2)
  subst hbt
  rw [if_pos rfl, row_edges] at he
  have h1' : templelaw6_DependsRows.l0 (K + 100) many neg (K + 100) (([] : List Rule), ([] : List ByteArray), ([] : List Edge), 0) = some ((List.range k).map (rowR k neg), (List.range k).map nameN, (List.range (k - 1)).map (rowE neg), (k : Int)) := h1
  unfold templelaw6_DependsRows
  rw [awake6 (K + 100) (by omega), Option.bind_some, if_neg (by decide), h1', Option.bind_some]
  simp only
  have he' : deps_Edges (K + 100) (⟨(0 : Int), (List.range k).map nameN, (List.range k).map (rowR k neg)⟩ : Grammar) = some ((List.range (k - 1)).map (rowE neg), 0) := he
  rw [he', Option.bind_some]
  simp only [templelaw0_Num, Option.bind_some]
  rw [if_pos trivial, SameEdges_refl _ _ (by simp; omega) (by simp; omega)]
  rfl
theorem DependsRows_holds (many : Int) (neg : List Int) (_ : wfI .i64 many) (w : wfL (wfI .i64) 8 neg) : ∃ K, templelaw6_DependsRows K many neg = some true := ⟨200000 + 100, DependsRows_true 200000 (Nat.le_refl _) many neg (by have := w.1; rw [reach_le] at this; omega)⟩
end Go.Proofs.Ytnkpelhaablheaa
