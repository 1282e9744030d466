/-
  Chapter 9: law EmptysRows. Own work; no claim stands here.
-/
import Derived.Test.YtflbjhfklhidjaaPLaw9b
namespace Go.Proofs.Ytflbjhfklhidjaa
open S Go.Sort
set_option linter.unusedVariables false
set_option linter.unusedSimpArgs false
set_option maxRecDepth 100000

/-! ## Names by numbers -/
def decN (i : Nat) : ByteArray := (templeref0_Decimal 100 (i : Int)).getD (⟨#[]⟩ : ByteArray)
def nameN (i : Nat) : ByteArray := (⟨#[110]⟩ : ByteArray) ++ decN i
theorem small (i : Nat) (h : i < 33) : i = 0 ∨ i = 1 ∨ i = 2 ∨ i = 3 ∨ i = 4 ∨ i = 5 ∨ i = 6 ∨ i = 7 ∨ i = 8 ∨ i = 9 ∨ i = 10 ∨ i = 11 ∨ i = 12 ∨ i = 13 ∨ i = 14 ∨ i = 15 ∨ i = 16 ∨ i = 17 ∨ i = 18 ∨ i = 19 ∨ i = 20 ∨ i = 21 ∨ i = 22 ∨ i = 23 ∨ i = 24 ∨ i = 25 ∨ i = 26 ∨ i = 27 ∨ i = 28 ∨ i = 29 ∨ i = 30 ∨ i = 31 ∨ i = 32 := by omega
theorem dec_spec (K : Nat) (i : Nat) (h : i < 33) : templeref0_Decimal (K + 100) (i : Int) = some (decN i) := by
  rcases small i h with rfl | rfl | rfl | rfl | rfl | rfl | rfl | rfl | rfl | rfl | rfl | rfl | rfl | rfl | rfl | rfl | rfl | rfl | rfl | rfl | rfl | rfl | rfl | rfl | rfl | rfl | rfl | rfl | rfl | rfl | rfl | rfl | rfl <;> kernel_rfl
theorem dec_size (i : Nat) (h : i < 33) : (decN i).size ≤ 2 := by
  have : ∀ i : Fin 33, (decN i.val).size ≤ 2 := by decide +kernel
  exact this ⟨i, h⟩
instance (c : Int) : Decidable (letterP c) := by unfold letterP; infer_instance
instance (c : Int) : Decidable (moreP c) := by unfold moreP; infer_instance
instance (s : ByteArray) : Decidable (nameP s) := by unfold nameP; infer_instance
theorem name_may (i : Nat) (h : i < 33) : nameP (nameN i) := by
  have : ∀ i : Fin 33, nameP (nameN i.val) := by decide +kernel
  exact this ⟨i, h⟩
theorem names_apart : ((List.range 33).map nameN).Nodup := by decide +kernel
theorem names_may (k : Nat) (h1 : 1 ≤ k) (h : k ≤ 33) : namesP ((List.range k).map nameN) := by
  refine ⟨by simp; omega, by simp; omega, fun s hs => ?_, ?_⟩
  · obtain ⟨i, hi, rfl⟩ := List.mem_map.1 hs
    exact name_may i (by have := List.mem_range.1 hi; omega)
  · have : (List.range k).Sublist (List.range 33) := by
      have e : List.range k = (List.range 33).take k := by rw [List.take_range]; congr 1; omega
      rw [e]; exact List.take_sublist _ _
    exact names_apart.sublist (this.map nameN)


/-! ## The grammar -/
def nameS : ByteArray := ⟨#[83]⟩
theorem nameS_may : nameP nameS := by decide +kernel
theorem namesS_apart : (nameS :: (List.range 33).map nameN).Nodup := by decide +kernel
theorem namesS_may (k : Nat) (h : k ≤ 30) : namesP (nameS :: (List.range k).map nameN) := by
  refine ⟨by simp, by simp; omega, fun s hs => ?_, ?_⟩
  · rcases List.mem_cons.1 hs with rfl | hs
    · exact nameS_may
    · obtain ⟨i, hi, rfl⟩ := List.mem_map.1 hs
      exact name_may i (by have := List.mem_range.1 hi; omega)
  · have : (List.range k).Sublist (List.range 33) := by
      have e : List.range k = (List.range 33).take k := by rw [List.take_range]; congr 1; omega
      rw [e]; exact List.take_sublist _ _
    exact namesS_apart.sublist ((this.map nameN).cons_cons nameS)
def ev (bits : List Int) (i : Nat) : Bool := decide (iand .i64 (rd bits (i : Int)) 1 = 0)
theorem ev_odd (bits : List Int) (i : Nat) : ev bits i = !decide (iand .i64 (rd bits (i : Int)) 1 = 1) := by
  unfold ev
  rw [and1]
  have h : rd bits (i : Int) % 2 = 0 ∨ rd bits (i : Int) % 2 = 1 := by omega
  rcases h with h | h <;> rw [h] <;> rfl
def seqN (k : Nat) : List Symbol := (List.range k).map fun j : Nat => ⟨(j : Int) + 1, 0, 0⟩
def allB (bits : List Int) (k : Nat) : Bool := (List.range k).all (ev bits)
def r0N (k : Nat) : Rule := ⟨0, [⟨false, seqN k⟩]⟩
def eR (bits : List Int) (i : Nat) : Rule := ⟨(i : Int) + 1, if iand .i64 (rd bits (i : Int)) 1 = 1 then [⟨false, [⟨-1, 0, 255⟩]⟩] else [⟨false, []⟩]⟩
def rG (bits : List Int) (k : Nat) : Grammar := ⟨0, nameS :: (List.range k).map nameN, r0N k :: (List.range k).map (eR bits)⟩
theorem eR_conj {bits : List Int} {i : Nat} {c : Conjunct} (h : c ∈ (eR bits i).Conj) : c = ⟨false, [⟨-1, 0, 255⟩]⟩ ∨ c = ⟨false, []⟩ := by
  unfold eR at h
  simp only at h
  split at h
  · exact .inl (List.mem_singleton.1 h)
  · exact .inr (List.mem_singleton.1 h)
theorem eR_ruleP (n : Int) (bits : List Int) (i : Nat) : ruleP n (eR bits i) := by
  refine ⟨?_, ?_, fun c hc => ?_⟩
  · unfold eR; simp only; split <;> simp
  · unfold eR; simp only; split <;> simp
  · rcases eR_conj hc with rfl | rfl
    · refine ⟨by simp, fun s hs => ?_⟩
      rw [List.mem_singleton] at hs; subst hs
      exact .inl ⟨rfl, by decide, by decide, by decide⟩
    · exact ⟨by simp, fun s hs => by cases hs⟩
theorem eR_sum (bits : List Int) (i : Nat) : sumR (eR bits i) ≤ 1 := by
  unfold sumR eR
  simp only
  split <;> simp [sumC]
theorem eR_total (bits : List Int) : ∀ is : List Nat, total (is.map (eR bits)) ≤ is.length
  | [] => by simp [total]
  | i :: is => by
    have := eR_sum bits i
    have := eR_total bits is
    rw [List.map_cons, total, List.length_cons]; omega
theorem eR_chain (bits : List Int) (k : Nat) : ∀ (m j : Nat), j + m = k → chainP ((k : Int) + 1) (j : Int) ((List.range' j m).map (eR bits))
  | 0, j, hj => by show (j : Int) = (k : Int) + 1 - 1; omega
  | m + 1, j, hj => by
    rw [List.range'_succ, List.map_cons, chainP]
    refine ⟨eR_ruleP _ bits j, .inr rfl, ?_⟩
    exact eR_chain bits k m (j + 1) (by omega)
theorem rG_may (bits : List Int) (k : Nat) (h : k ≤ 30) : mayP (rG bits k) := by
  have hl : (rG bits k).Names.length = k + 1 := by simp [rG]
  refine ⟨namesS_may k h, Int.le_refl _, by rw [hl]; show (0 : Int) < _; omega, by simp [rG], by simp [rG]; omega, rfl, ?_, ?_⟩
  · rw [hl]
    show chainP ((k + 1 : Nat) : Int) (-1) (r0N k :: (List.range k).map (eR bits))
    rw [chainP]
    refine ⟨⟨by simp [r0N], by simp [r0N], fun c hc => ?_⟩, .inr rfl, ?_⟩
    · have hc' : c ∈ [(⟨false, seqN k⟩ : Conjunct)] := hc
      rw [List.mem_singleton] at hc'; subst hc'
      refine ⟨by simp [seqN]; omega, fun s hs => ?_⟩
      obtain ⟨j, hj, rfl⟩ := List.mem_map.1 hs
      have := List.mem_range.1 hj
      exact .inr ⟨by simp only; omega, by simp only; omega, rfl, rfl⟩
    · have := eR_chain bits k k 0 (by omega)
      rw [List.range_eq_range']
      have e : ((k + 1 : Nat) : Int) = (k : Int) + 1 := by omega
      rw [e]; exact this
  · show total (r0N k :: (List.range k).map (eR bits)) ≤ 1024
    have h1 := eR_total bits (List.range k)
    have h2 : sumR (r0N k) = k := by simp [sumR, r0N, sumC, seqN]
    rw [total, h2]
    rw [List.length_range] at h1
    omega
theorem rG_neg {bits : List Int} {k : Nat} {e : Edge} (h : Occ (rG bits k) e) : e.Neg = false := by
  obtain ⟨r, hr, c, hc, s, hs, h0, rfl⟩ := h
  rcases List.mem_cons.1 hr with rfl | hr
  · have hc' : c ∈ [(⟨false, seqN k⟩ : Conjunct)] := hc
    rw [List.mem_singleton] at hc'; subst hc'; rfl
  · obtain ⟨i, hi, rfl⟩ := List.mem_map.1 hr
    rcases eR_conj hc with rfl | rfl <;> rfl
def hasN (bits : List Int) (k : Nat) : List Bool := allB bits k :: (List.range k).map (ev bits)
theorem hasN_rd (bits : List Int) (k i : Nat) (h : i < k) : rd (hasN bits k) ((i : Int) + 1) = ev bits i := by
  have e : (i : Int) + 1 = ((i + 1 : Nat) : Int) := by omega
  rw [e, rd_nat, List.getD_eq_getElem?_getD]
  unfold hasN
  rw [List.getElem?_cons_succ, List.getElem?_map, List.getElem?_range h]; rfl
theorem hasN_0 (bits : List Int) (k : Nat) : rd (hasN bits k) 0 = allB bits k := rfl
theorem h_r0 (M : List Bool) (k : Nat) : holdsR M (r0N k) = (List.range k).all fun j : Nat => rd M ((j : Int) + 1) := by
  have h1 : emptyC M ⟨false, seqN k⟩ = (List.range k).all fun j : Nat => rd M ((j : Int) + 1) := by
    unfold emptyC seqN
    rw [List.all_map]
    congr 1
  show ([(⟨false, seqN k⟩ : Conjunct)].all fun c => emptyC M c != c.Neg) = _
  rw [List.all_cons, List.all_nil, Bool.and_true, h1]
  cases (List.range k).all fun j : Nat => rd M ((j : Int) + 1) <;> rfl
theorem h_eR (M : List Bool) (bits : List Int) (i : Nat) : holdsR M (eR bits i) = ev bits i := by
  rw [ev_odd]
  unfold holdsR eR
  simp only
  split
  · rename_i h
    rw [decide_eq_true h]; rfl
  · rename_i h
    rw [decide_eq_false h]; rfl
theorem rG_pm (bits : List Int) (k : Nat) : PM (k + 1) (rG bits k).Rules (rd (List.replicate (k + 1) (0 : Int))) (hasN bits k) := by
  have hz : ∀ y : Int, 0 ≤ y → y < ((k + 1 : Nat) : Int) → rd (List.replicate (k + 1) (0 : Int)) y = 0 := fun y a b => rdi_rep _ a b
  have h0 : holdsR (hasN bits k) (r0N k) = allB bits k := by
    rw [h_r0]
    unfold allB
    rw [Bool.eq_iff_iff, List.all_eq_true, List.all_eq_true]
    refine forall_congr' fun j => forall_congr' fun hj => ?_
    rw [hasN_rd bits k j (List.mem_range.1 hj)]
  have cases_ : ∀ y : Int, 0 ≤ y → y < ((k + 1 : Nat) : Int) → y = 0 ∨ ∃ i : Nat, i < k ∧ y = (i : Int) + 1 := fun y a b => by
    by_cases c : y = 0
    · exact .inl c
    · exact .inr ⟨(y - 1).toNat, by omega, by omega⟩
  refine ⟨by simp [hasN], fun r hr hh => ?_, fun y a b hy => ?_, fun t M hM hcl y a b ht hy => ?_⟩
  · rcases List.mem_cons.1 hr with rfl | hr
    · rw [h0] at hh; exact hh
    · obtain ⟨i, hi, rfl⟩ := List.mem_map.1 hr
      rw [h_eR] at hh
      show S.rd (hasN bits k) ((i : Int) + 1) = true
      rw [hasN_rd bits k i (List.mem_range.1 hi)]; exact hh
  · rcases cases_ y a b with rfl | ⟨i, hi, rfl⟩
    · exact ⟨r0N k, .head _, rfl, by rw [h0]; exact hy⟩
    · rw [hasN_rd bits k i hi] at hy
      exact ⟨eR bits i, .tail _ (List.mem_map.2 ⟨i, List.mem_range.2 hi, rfl⟩), rfl, by rw [h_eR]; exact hy⟩
  · have ht0 : t = 0 := by rw [← ht]; exact hz y a b
    have one : ∀ i : Nat, i < k → ev bits i = true → rd M ((i : Int) + 1) = true := fun i hi hev => by
      refine hcl (eR bits i) (.tail _ (List.mem_map.2 ⟨i, List.mem_range.2 hi, rfl⟩)) ?_ (by rw [h_eR]; exact hev)
      show S.rd (List.replicate (k + 1) (0 : Int)) ((i : Int) + 1) = t
      rw [hz _ (by omega) (by omega), ht0]
    rcases cases_ y a b with rfl | ⟨i, hi, rfl⟩
    · have hall : allB bits k = true := hy
      refine hcl (r0N k) (.head _) ?_ ?_
      · show S.rd (List.replicate (k + 1) (0 : Int)) 0 = t
        rw [hz _ (by omega) (by omega), ht0]
      · rw [h_r0, List.all_eq_true]
        intro j hj
        unfold allB at hall
        rw [List.all_eq_true] at hall
        exact one j (List.mem_range.1 hj) (hall j hj)
    · rw [hasN_rd bits k i hi] at hy
      exact one i hi hy

/-! ## The law -/
theorem er_l0 (K : Nat) (bits : List Int) (k : Nat) (hk : k = min bits.length 30) : ∀ (d i m : Nat), i + d = k → d < m →
    templelaw9_EmptysRows.l0 (K + 100) bits m ([⟨false, seqN i⟩], nameS :: (List.range i).map nameN, allB bits i, (i : Int)) = some ([⟨false, seqN k⟩], nameS :: (List.range k).map nameN, allB bits k, (k : Int))
  | 0, i, m, hi, hm => by
    obtain ⟨m, rfl⟩ : ∃ q, m = q + 1 := ⟨m - 1, by omega⟩
    have : i = k := by omega
    subst this
    simp only [templelaw9_EmptysRows.l0]
    by_cases c : (i : Int) < (bits.length : Int)
    · rw [if_pos c, if_neg (by omega)]
    · rw [if_neg c]
  | d + 1, i, m, hi, hm => by
    obtain ⟨m, rfl⟩ : ∃ q, m = q + 1 := ⟨m - 1, by omega⟩
    have ih := er_l0 K bits k hk d (i + 1) m (by omega) (by omega)
    have hd := dec_size i (by omega)
    have e1 : (⟨#[110]⟩ : ByteArray) ++ decN i = nameN i := rfl
    have s1 : ((⟨#[110]⟩ : ByteArray).size : Int) = 1 := rfl
    have en : (nameS :: (List.range i).map nameN) ++ [nameN i] = nameS :: (List.range (i + 1)).map nameN := by rw [List.range_succ, List.map_append]; rfl
    have es : seqN i ++ [(⟨(i : Int) + 1, (0 : Int), (0 : Int)⟩ : Symbol)] = seqN (i + 1) := by unfold seqN; rw [List.range_succ, List.map_append]; rfl
    have ea : allB bits (i + 1) = (allB bits i && ev bits i) := by unfold allB; rw [List.range_succ, List.all_append]; simp
    have b3 : ((nameS :: (List.range i).map nameN).length + 1) * 16 ≤ 140737488355328 := by rw [List.length_cons, List.length_map, List.length_range]; omega
    have b4 : ((seqN i).length + 1) * 24 ≤ 140737488355328 := by unfold seqN; rw [List.length_map, List.length_range]; omega
    have hr : rd ([(⟨false, seqN i⟩ : Conjunct)] : List Conjunct) 0 = ⟨false, seqN i⟩ := rfl
    have e2 : ((i + 1 : Nat) : Int) = (i : Int) + 1 := by omega
    rw [e2] at ih
    simp only [templelaw9_EmptysRows.l0, List.length_singleton, hr]
    rw [if_pos (by omega), if_pos (by omega), dec_spec K i (by omega), Option.bind_some, if_pos (by omega), e1, if_pos b3, if_pos (by decide), if_pos b4, wr (a := (i : Int) + 1) (by omega) (by omega), en, es]
    cases hb : allB bits i with
    | true =>
      rw [hb, Bool.true_and] at ea
      rw [if_pos rfl, if_pos (by omega)]
      rw [ea] at ih
      exact ih
    | false =>
      rw [hb, Bool.false_and] at ea
      rw [if_neg (by decide)]
      rw [ea] at ih
      exact ih
theorem er_l1 (K : Nat) (bits : List Int) (k : Nat) (hk : k = min bits.length 30) : ∀ (d i m : Nat), i + d = k → d < m →
    templelaw9_EmptysRows.l1 K bits m (r0N k :: (List.range i).map (eR bits), (i : Int)) = some (r0N k :: (List.range k).map (eR bits), (k : Int))
  | 0, i, m, hi, hm => by
    obtain ⟨m, rfl⟩ : ∃ q, m = q + 1 := ⟨m - 1, by omega⟩
    have : i = k := by omega
    subst this
    simp only [templelaw9_EmptysRows.l1]
    by_cases c : (i : Int) < (bits.length : Int)
    · rw [if_pos c, if_neg (by omega)]
    · rw [if_neg c]
  | d + 1, i, m, hi, hm => by
    obtain ⟨m, rfl⟩ : ∃ q, m = q + 1 := ⟨m - 1, by omega⟩
    have ih := er_l1 K bits k hk d (i + 1) m (by omega) (by omega)
    have er : (r0N k :: (List.range i).map (eR bits)) ++ [eR bits i] = r0N k :: (List.range (i + 1)).map (eR bits) := by rw [List.range_succ, List.map_append]; rfl
    have b3 : ((r0N k :: (List.range i).map (eR bits)).length + 1) * 32 ≤ 140737488355328 := by rw [List.length_cons, List.length_map, List.length_range]; omega
    have e2 : ((i + 1 : Nat) : Int) = (i : Int) + 1 := by omega
    rw [e2] at ih
    simp only [templelaw9_EmptysRows.l1, List.length_singleton]
    rw [if_pos (by omega), if_pos (by omega), if_pos (by omega), wr (a := (i : Int) + 1) (by omega) (by omega)]
    by_cases c : iand .i64 (rd bits (i : Int)) 1 = 1
    · have e3 : (⟨(i : Int) + 1, ([(⟨false, ([] : List Symbol)⟩ : Conjunct)] : List Conjunct).set (0 : Int).toNat (⟨(rd ([(⟨false, ([] : List Symbol)⟩ : Conjunct)] : List Conjunct) 0).Neg, ([(⟨(-1), 0, 255⟩ : Symbol)] : List Symbol)⟩ : Conjunct)⟩ : Rule) = eR bits i := by unfold eR; rw [if_pos c]; rfl
      rw [if_pos c, if_pos (by decide), if_pos b3, e3, er]
      exact ih
    · have e3 : (⟨(i : Int) + 1, ([(⟨false, ([] : List Symbol)⟩ : Conjunct)] : List Conjunct)⟩ : Rule) = eR bits i := by unfold eR; rw [if_neg c]
      rw [if_neg c, if_pos b3, e3, er]
      exact ih
theorem er_l2 (K : Nat) (bits : List Int) (k : Nat) (hk : k = min bits.length 30) : ∀ (d i m : Nat), i + d = k → d < m →
    templelaw9_EmptysRows.l2 K bits (hasN bits k, 0) m ((i : Int) + 1) = some (.inl ((k : Int) + 1))
  | 0, i, m, hi, hm => by
    obtain ⟨m, rfl⟩ : ∃ q, m = q + 1 := ⟨m - 1, by omega⟩
    have : i = k := by omega
    have hl : (hasN bits k).length = k + 1 := by simp [hasN]
    simp only [templelaw9_EmptysRows.l2]
    rw [hl, if_neg (by omega), this]
  | d + 1, i, m, hi, hm => by
    obtain ⟨m, rfl⟩ : ∃ q, m = q + 1 := ⟨m - 1, by omega⟩
    have ih := er_l2 K bits k hk d (i + 1) m (by omega) (by omega)
    have hl : (hasN bits k).length = k + 1 := by simp [hasN]
    have e2 : ((i + 1 : Nat) : Int) = (i : Int) + 1 := by omega
    have e3 : (i : Int) + 1 - 1 = (i : Int) := by omega
    rw [e2] at ih
    simp only [templelaw9_EmptysRows.l2]
    rw [hl, if_pos (by omega), if_pos (by omega), e3, wr (a := (i : Int)) (by omega) (by omega), if_pos (by omega), if_pos (by omega), hasN_rd bits k i (by omega), if_neg (fun h => h rfl), wr (by omega) (by omega)]
    exact ih
theorem EmptysRows_true (K : Nat) (hK : 200000 ≤ K) (bits : List Int) : templelaw9_EmptysRows (K + 100) bits = some true := by
  obtain ⟨k, hk⟩ : ∃ k, k = min bits.length 30 := ⟨_, rfl⟩
  have hk30 : k ≤ 30 := by omega
  have h0 := er_l0 K bits k hk k 0 (K + 100) (by omega) (by omega)
  have h1 := er_l1 (K + 100) bits k hk k 0 (K + 100) (by omega) (by omega)
  have h2 := er_l2 (K + 100) bits k hk k 0 (K + 100) (by omega) (by omega)
  have h0' : templelaw9_EmptysRows.l0 (K + 100) bits (K + 100) (([(⟨false, ([] : List Symbol)⟩ : Conjunct)] : List Conjunct), ([(⟨#[83]⟩ : ByteArray)] : List ByteArray), true, 0) = some ([⟨false, seqN k⟩], nameS :: (List.range k).map nameN, allB bits k, (k : Int)) := h0
  have h1' : templelaw9_EmptysRows.l1 (K + 100) bits (K + 100) (([(⟨(0 : Int), [⟨false, seqN k⟩]⟩ : Rule)] : List Rule), 0) = some (r0N k :: (List.range k).map (eR bits), (k : Int)) := h1
  have h2' : templelaw9_EmptysRows.l2 (K + 100) bits (hasN bits k, 0) (K + 100) 1 = some (.inl ((k : Int) + 1)) := h2
  obtain ⟨r, h3, h4⟩ := Nulls_spec (K + 100) (by omega) (rG bits k)
  obtain ⟨has, rfl, hp⟩ := flat_nul (rG_may bits k hk30) (fun e he => rG_neg he) h4
  have hl : (rG bits k).Names.length = k + 1 := by simp [rG]
  rw [hl] at hp
  have := hp.uniq (fun y a b => by rw [rdi_rep _ a b]; exact Int.le_refl _) (rG_pm bits k)
  subst this
  have h3' : nulls_Nulls (K + 100) (⟨(0 : Int), nameS :: (List.range k).map nameN, r0N k :: (List.range k).map (eR bits)⟩ : Grammar) = some (hasN bits k, 0) := h3
  have hhl : (hasN bits k).length = k + 1 := by simp [hasN]
  unfold templelaw9_EmptysRows
  rw [awake9 (K + 100) (by omega), Option.bind_some, if_neg (by decide), h0', Option.bind_some]
  simp only
  rw [h1', Option.bind_some]
  simp only
  rw [h3', Option.bind_some]
  simp only [templelaw0_Num, Option.bind_some]
  rw [if_neg (fun h => h rfl), if_neg (fun h => h (by rw [hhl]; simp)), if_pos (by omega), hasN_0, if_neg (fun h => h rfl), h2']
  rfl
theorem EmptysRows_holds (bits : List Int) (_ : wfL (wfI .i64) 8 bits) : ∃ K, templelaw9_EmptysRows K bits = some true := ⟨200000 + 100, EmptysRows_true 200000 (Nat.le_refl _) bits⟩
end Go.Proofs.Ytflbjhfklhidjaa
