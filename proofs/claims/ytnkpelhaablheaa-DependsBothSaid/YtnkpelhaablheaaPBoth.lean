/-
  Law DependsBoth of chapter 6, in plain Lean. Own work; no claim stands here.
-/
import Derived.Test.YtnkpelhaablheaaPDep
import Derived.Test.YtnkpelhaablheaaFF
namespace Go.Proofs.Ytnkpelhaablheaa
open S Go.Sort
set_option linter.unusedVariables false
set_option linter.unusedSimpArgs false
set_option maxRecDepth 100000

def decB (i : Nat) : ByteArray := (templeref0_Decimal 100 (i : Int)).getD (⟨#[]⟩ : ByteArray)
theorem small64 (i : Nat) (h : i < 64) : i = 0 ∨ i = 1 ∨ i = 2 ∨ i = 3 ∨ i = 4 ∨ i = 5 ∨ i = 6 ∨ i = 7 ∨ i = 8 ∨ i = 9 ∨ i = 10 ∨ i = 11 ∨ i = 12 ∨ i = 13 ∨ i = 14 ∨ i = 15 ∨ i = 16 ∨ i = 17 ∨ i = 18 ∨ i = 19 ∨ i = 20 ∨ i = 21 ∨ i = 22 ∨ i = 23 ∨ i = 24 ∨ i = 25 ∨ i = 26 ∨ i = 27 ∨ i = 28 ∨ i = 29 ∨ i = 30 ∨ i = 31 ∨ i = 32 ∨ i = 33 ∨ i = 34 ∨ i = 35 ∨ i = 36 ∨ i = 37 ∨ i = 38 ∨ i = 39 ∨ i = 40 ∨ i = 41 ∨ i = 42 ∨ i = 43 ∨ i = 44 ∨ i = 45 ∨ i = 46 ∨ i = 47 ∨ i = 48 ∨ i = 49 ∨ i = 50 ∨ i = 51 ∨ i = 52 ∨ i = 53 ∨ i = 54 ∨ i = 55 ∨ i = 56 ∨ i = 57 ∨ i = 58 ∨ i = 59 ∨ i = 60 ∨ i = 61 ∨ i = 62 ∨ i = 63 := by omega
theorem dec64 (K : Nat) (i : Nat) (h : i < 64) : templeref0_Decimal (K + 100) (i : Int) = some (decB i) := by
  rcases small64 i h with rfl | rfl | rfl | rfl | rfl | rfl | rfl | rfl | rfl | rfl | rfl | rfl | rfl | rfl | rfl | rfl | rfl | rfl | rfl | rfl | rfl | rfl | rfl | rfl | rfl | rfl | rfl | rfl | rfl | rfl | rfl | rfl | rfl | rfl | rfl | rfl | rfl | rfl | rfl | rfl | rfl | rfl | rfl | rfl | rfl | rfl | rfl | rfl | rfl | rfl | rfl | rfl | rfl | rfl | rfl | rfl | rfl | rfl | rfl | rfl | rfl | rfl | rfl | rfl <;> kernel_rfl
theorem dec64_size (i : Nat) (h : i < 64) : (decB i).size ≤ 2 := by
  have : ∀ i : Fin 64, (decB i.val).size ≤ 2 := by decide +kernel
  exact this ⟨i, h⟩

/-! ## A list that is mapped in place -/
def mixL {T : Type} (f : T → T) (xs : List T) (m : Nat) : List T := (xs.take m).map f ++ xs.drop m
theorem mix_zero {T : Type} (f : T → T) (xs : List T) : mixL f xs 0 = xs := by simp [mixL]
theorem mix_all {T : Type} (f : T → T) (xs : List T) : mixL f xs xs.length = xs.map f := by simp [mixL]
theorem mix_len {T : Type} (f : T → T) (xs : List T) (m : Nat) : (mixL f xs m).length = xs.length := by simp [mixL]; omega
theorem rd_eq {T : Type} [Inhabited T] {xs : List T} {i : Nat} (h : i < xs.length) : rd xs (i : Int) = xs[i] := by rw [rd_nat, List.getD_eq_getElem?_getD, List.getElem?_eq_getElem h]; rfl
theorem mix_rd {T : Type} [Inhabited T] (f : T → T) (xs : List T) (m : Nat) (h : m < xs.length) : rd (mixL f xs m) (m : Int) = rd xs (m : Int) := by
  rw [rd_eq (by rw [mix_len]; exact h), rd_eq h]
  unfold mixL
  rw [List.getElem_append_right (by simp; omega)]
  simp [Nat.min_eq_left (Nat.le_of_lt h)]
theorem mix_set {T : Type} [Inhabited T] (f : T → T) (xs : List T) (m : Nat) (h : m < xs.length) : (mixL f xs m).set m (f (rd xs (m : Int))) = mixL f xs (m + 1) := by
  unfold mixL
  have hl : ((xs.take m).map f).length = m := by simp; omega
  rw [List.set_append_right _ _ (by omega), hl, Nat.sub_self, List.drop_eq_getElem_cons h, List.set_cons_zero, rd_eq h, List.take_add_one, List.getElem?_eq_getElem h, List.map_append, List.append_assoc]
  rfl
theorem mix_same {T : Type} [Inhabited T] (f : T → T) (xs : List T) (m : Nat) (h : m < xs.length) (he : f (rd xs (m : Int)) = rd xs (m : Int)) : mixL f xs (m + 1) = mixL f xs m := by
  rw [← mix_set f xs m h, he, ← mix_rd f xs m h]
  apply List.ext_getElem?
  intro i
  rw [List.getElem?_set]
  by_cases e : m = i
  · subst e
    have hm : m < (mixL f xs m).length := by rw [mix_len]; exact h
    rw [if_pos rfl, if_pos hm, List.getElem?_eq_getElem hm, rd_eq hm]
  · rw [if_neg e]

/-! ## Names moved on -/
def shS (n : Int) (s : Symbol) : Symbol := if 0 ≤ s.Name then ⟨s.Name + n, s.Lo, s.Hi⟩ else s
def shC (n : Int) (c : Conjunct) : Conjunct := ⟨c.Neg, c.Seq.map (shS n)⟩
def shR (n : Int) (r : Rule) : Rule := ⟨r.Head + n, r.Conj.map (shC n)⟩
def shE (n : Int) (e : Edge) : Edge := ⟨e.From + n, e.To + n, e.Neg⟩
theorem set_rd {T : Type} [Inhabited T] {xs : List T} {j : Nat} {x : T} (h : j < xs.length) : rd (xs.set j x) (j : Int) = x := by rw [rd_set x h, if_pos rfl]
theorem both_l4 (K : Nat) (g : Grammar) (hg : g.Names.length ≤ 64) (cs : List Conjunct) (hc8 : cs.length ≤ 8) (j : Nat) (hj : j < cs.length) (hc : conjP 64 (rd cs (j : Int))) : ∀ (k m q : Nat), m + k = (rd cs (j : Int)).Seq.length → k < q →
    templelaw6_DependsBoth.l4 K g j q (cs.set j (⟨(rd cs (j : Int)).Neg, mixL (shS (g.Names.length : Int)) (rd cs (j : Int)).Seq m⟩ : Conjunct), (m : Int)) = some (cs.set j (shC (g.Names.length : Int) (rd cs (j : Int))), ((rd cs (j : Int)).Seq.length : Int))
  | 0, m, q, hm, hq => by
    obtain ⟨q, rfl⟩ : ∃ r, q = r + 1 := ⟨q - 1, by omega⟩
    have e : m = (rd cs (j : Int)).Seq.length := by omega
    simp only [templelaw6_DependsBoth.l4]
    rw [if_pos (by omega), if_pos (by rw [List.length_set]; omega)]
    simp only [set_rd hj]
    rw [mix_len, if_neg (by omega), e, mix_all]
    rfl
  | k + 1, m, q, hm, hq => by
    obtain ⟨q, rfl⟩ : ∃ r, q = r + 1 := ⟨q - 1, by omega⟩
    have ih := both_l4 K g hg cs hc8 j hj hc k (m + 1) q (by omega) (by omega)
    have hml : m < (rd cs (j : Int)).Seq.length := by omega
    have h64 := hc.1
    have hs := hc.2 _ (rd_mem (xs := (rd cs (j : Int)).Seq) (i := (m : Int)) (by omega) (by omega))
    simp only [templelaw6_DependsBoth.l4]
    rw [if_pos (by omega), if_pos (by rw [List.length_set]; omega)]
    simp only [set_rd hj]
    rw [mix_len, if_pos (by omega), if_pos (by omega), mix_rd _ _ _ hml, wr (a := (m : Int) + 1) (by omega) (by omega), Int.toNat_natCast, Int.toNat_natCast, List.set_set]
    by_cases hn : 0 ≤ (rd (rd cs (j : Int)).Seq (m : Int)).Name
    · have e : (⟨IntKind.wrap .i64 ((rd (rd cs (j : Int)).Seq (m : Int)).Name + (g.Names.length : Int)), (rd (rd cs (j : Int)).Seq (m : Int)).Lo, (rd (rd cs (j : Int)).Seq (m : Int)).Hi⟩ : Symbol) = shS (g.Names.length : Int) (rd (rd cs (j : Int)).Seq (m : Int)) := by
        unfold shS
        rw [if_pos hn, wr (by omega) (by rcases hs with h | h <;> omega)]
      rw [if_pos hn, e, mix_set _ _ _ hml]
      simpa using ih
    · have e : shS (g.Names.length : Int) (rd (rd cs (j : Int)).Seq (m : Int)) = rd (rd cs (j : Int)).Seq (m : Int) := by unfold shS; rw [if_neg hn]
      rw [if_neg hn]
      rw [mix_same _ _ _ hml e] at ih
      simpa using ih
theorem both_l3 (K : Nat) (hK : 1000 ≤ K) (g : Grammar) (hg : g.Names.length ≤ 64) (cs : List Conjunct) (hc8 : cs.length ≤ 8) (hc : ∀ c ∈ cs, conjP 64 c) : ∀ (k j q : Nat), j + k = cs.length → k < q →
    templelaw6_DependsBoth.l3 K g q (mixL (shC (g.Names.length : Int)) cs j, (j : Int)) = some (cs.map (shC (g.Names.length : Int)), (cs.length : Int))
  | 0, j, q, hj, hq => by
    obtain ⟨q, rfl⟩ : ∃ r, q = r + 1 := ⟨q - 1, by omega⟩
    have e : j = cs.length := by omega
    simp only [templelaw6_DependsBoth.l3]
    rw [mix_len, if_neg (by omega), e, mix_all]
  | k + 1, j, q, hj, hq => by
    obtain ⟨q, rfl⟩ : ∃ r, q = r + 1 := ⟨q - 1, by omega⟩
    have ih := both_l3 K hK g hg cs hc8 hc k (j + 1) q (by omega) (by omega)
    have hjl : j < cs.length := by omega
    have hjm : j < (mixL (shC (g.Names.length : Int)) cs j).length := by rw [mix_len]; exact hjl
    have hcj := hc _ (rd_mem (xs := cs) (i := (j : Int)) (by omega) (by omega))
    have h64 := hcj.1
    have h4 := both_l4 K g hg (mixL (shC (g.Names.length : Int)) cs j) (by rw [mix_len]; exact hc8) j hjm (by rw [mix_rd _ _ _ hjl]; exact hcj) (rd cs (j : Int)).Seq.length 0 K (by rw [mix_rd _ _ _ hjl]; omega) (by omega)
    simp only [mix_rd _ _ _ hjl, mix_zero] at h4
    have e0 : (mixL (shC (g.Names.length : Int)) cs j).set j (⟨(rd cs (j : Int)).Neg, (rd cs (j : Int)).Seq⟩ : Conjunct) = mixL (shC (g.Names.length : Int)) cs j := by
      have : (⟨(rd cs (j : Int)).Neg, (rd cs (j : Int)).Seq⟩ : Conjunct) = rd (mixL (shC (g.Names.length : Int)) cs j) (j : Int) := by rw [mix_rd _ _ _ hjl]
      rw [this, rd_eq hjm, List.set_getElem_self]
    rw [e0, mix_set _ _ _ hjl, show ((0 : Nat) : Int) = 0 from rfl] at h4
    simp only [templelaw6_DependsBoth.l3]
    rw [mix_len, if_pos (by omega), h4, Option.bind_some, wr (a := (j : Int) + 1) (by omega) (by omega)]
    simpa using ih
theorem both_l2 (K : Nat) (hK : 1000 ≤ K) (g h : Grammar) (hg : g.Names.length ≤ 64) (hr : h.Rules.length ≤ 256) (hgr : g.Rules.length ≤ 256) (hh : ∀ r ∈ h.Rules, 0 ≤ r.Head ∧ r.Head ≤ 64 ∧ r.Conj.length ≤ 8 ∧ ∀ c ∈ r.Conj, conjP 64 c) : ∀ (k i q : Nat), i + k = h.Rules.length → k < q →
    templelaw6_DependsBoth.l2 K g h q (g.Rules ++ (h.Rules.take i).map (shR (g.Names.length : Int)), (i : Int)) = some (g.Rules ++ h.Rules.map (shR (g.Names.length : Int)), (h.Rules.length : Int))
  | 0, i, q, hi, hq => by
    obtain ⟨q, rfl⟩ : ∃ r, q = r + 1 := ⟨q - 1, by omega⟩
    have e : i = h.Rules.length := by omega
    simp only [templelaw6_DependsBoth.l2]
    rw [if_neg (by omega), e, List.take_length]
  | k + 1, i, q, hi, hq => by
    obtain ⟨q, rfl⟩ : ∃ r, q = r + 1 := ⟨q - 1, by omega⟩
    have ih := both_l2 K hK g h hg hr hgr hh k (i + 1) q (by omega) (by omega)
    have hil : i < h.Rules.length := by omega
    have hri := hh _ (rd_mem (xs := h.Rules) (i := (i : Int)) (by omega) (by omega))
    have h3 := both_l3 K hK g hg (rd h.Rules (i : Int)).Conj hri.2.2.1 hri.2.2.2 (rd h.Rules (i : Int)).Conj.length 0 K (by omega) (by have := hri.2.2.1; omega)
    rw [mix_zero, show ((0 : Nat) : Int) = 0 from rfl] at h3
    simp only [templelaw6_DependsBoth.l2]
    rw [if_pos (by omega), if_pos (by omega), h3, Option.bind_some]
    simp only
    rw [if_pos (by simp only [List.length_append, List.length_map, List.length_take, List.length_cons, List.length_nil]; omega), wr (a := (i : Int) + 1) (by omega) (by omega), wr (by omega) (by omega), List.append_assoc]
    have e : (h.Rules.take i).map (shR (g.Names.length : Int)) ++ [(⟨(rd h.Rules (i : Int)).Head + (g.Names.length : Int), (rd h.Rules (i : Int)).Conj.map (shC (g.Names.length : Int))⟩ : Rule)] = (h.Rules.take (i + 1)).map (shR (g.Names.length : Int)) := by
      rw [List.take_add_one, List.getElem?_eq_getElem hil, List.map_append, rd_eq hil]; rfl
    rw [e]
    simpa using ih
theorem both_l0 (K : Nat) (g : Grammar) (hg : g.Names.length ≤ 64) : ∀ (k i q : Nat) (xs : List ByteArray), xs.length = g.Names.length → i + k = g.Names.length → k < q → ∃ ys z, templelaw6_DependsBoth.l0 (K + 100) g q (xs, (i : Int)) = some (ys, z) ∧ ys.length = g.Names.length
  | 0, i, q, xs, hx, hi, hq => by
    obtain ⟨q, rfl⟩ : ∃ r, q = r + 1 := ⟨q - 1, by omega⟩
    simp only [templelaw6_DependsBoth.l0]
    rw [if_neg (by omega)]; exact ⟨_, _, rfl, hx⟩
  | k + 1, i, q, xs, hx, hi, hq => by
    obtain ⟨q, rfl⟩ : ∃ r, q = r + 1 := ⟨q - 1, by omega⟩
    have hd := dec64_size i (by omega)
    have s1 : ((⟨#[97]⟩ : ByteArray).size : Int) = 1 := rfl
    simp only [templelaw6_DependsBoth.l0]
    rw [if_pos (by omega), dec64 K i (by omega), Option.bind_some, if_pos (by omega), if_pos (by omega), if_pos (by omega), wr (a := (i : Int) + 1) (by omega) (by omega)]
    have := both_l0 K g hg k (i + 1) q (xs.set (i : Int).toNat ((⟨#[97]⟩ : ByteArray) ++ decB i)) (by rw [List.length_set]; exact hx) (by omega) (by omega)
    simpa using this
theorem both_l1 (K : Nat) (h : Grammar) (hh : h.Names.length ≤ 64) : ∀ (k i q : Nat) (xs : List ByteArray), xs.length ≤ 64 + i → i + k = h.Names.length → k < q → ∃ ys z, templelaw6_DependsBoth.l1 (K + 100) h q (xs, (i : Int)) = some (ys, z)
  | 0, i, q, xs, hx, hi, hq => by
    obtain ⟨q, rfl⟩ : ∃ r, q = r + 1 := ⟨q - 1, by omega⟩
    simp only [templelaw6_DependsBoth.l1]
    rw [if_neg (by omega)]; exact ⟨_, _, rfl⟩
  | k + 1, i, q, xs, hx, hi, hq => by
    obtain ⟨q, rfl⟩ : ∃ r, q = r + 1 := ⟨q - 1, by omega⟩
    have hd := dec64_size i (by omega)
    have s1 : ((⟨#[98]⟩ : ByteArray).size : Int) = 1 := rfl
    simp only [templelaw6_DependsBoth.l1]
    rw [if_pos (by omega), dec64 K i (by omega), Option.bind_some, if_pos (by omega), if_pos (by simp only [List.length_cons, List.length_nil]; omega), wr (a := (i : Int) + 1) (by omega) (by omega)]
    have := both_l1 K h hh k (i + 1) q (xs ++ [(⟨#[98]⟩ : ByteArray) ++ decB i]) (by simp only [List.length_append, List.length_cons, List.length_nil]; omega) (by omega) (by omega)
    simpa using this
theorem both_l5 (K : Nat) (g : Grammar) (hg : g.Names.length ≤ 64) (b : List Edge) (hb : b.length ≤ 131072) (hbd : ∀ e ∈ b, 0 ≤ e.From ∧ e.From ≤ 64 ∧ 0 ≤ e.To ∧ e.To ≤ 64) (a : List Edge) (ha : a.length ≤ 131072) : ∀ (k i q : Nat), i + k = b.length → k < q →
    templelaw6_DependsBoth.l5 K g (b, 0) q (a ++ (b.take i).map (shE (g.Names.length : Int)), (i : Int)) = some (a ++ b.map (shE (g.Names.length : Int)), (b.length : Int))
  | 0, i, q, hi, hq => by
    obtain ⟨q, rfl⟩ : ∃ r, q = r + 1 := ⟨q - 1, by omega⟩
    have e : i = b.length := by omega
    simp only [templelaw6_DependsBoth.l5]
    rw [if_neg (by omega), e, List.take_length]
  | k + 1, i, q, hi, hq => by
    obtain ⟨q, rfl⟩ : ∃ r, q = r + 1 := ⟨q - 1, by omega⟩
    have ih := both_l5 K g hg b hb hbd a ha k (i + 1) q (by omega) (by omega)
    have hil : i < b.length := by omega
    have hbi := hbd _ (rd_mem (xs := b) (i := (i : Int)) (by omega) (by omega))
    simp only [templelaw6_DependsBoth.l5]
    rw [if_pos (by omega), if_pos (by omega), if_pos (by simp only [List.length_append, List.length_map, List.length_take, List.length_cons, List.length_nil]; omega), wr (a := (i : Int) + 1) (by omega) (by omega), wr (by omega) (by omega), wr (by omega) (by omega), List.append_assoc]
    have e : (b.take i).map (shE (g.Names.length : Int)) ++ [(⟨(rd b (i : Int)).From + (g.Names.length : Int), (rd b (i : Int)).To + (g.Names.length : Int), (rd b (i : Int)).Neg⟩ : Edge)] = (b.take (i + 1)).map (shE (g.Names.length : Int)) := by
      rw [List.take_add_one, List.getElem?_eq_getElem hil, List.map_append, rd_eq hil]; rfl
    rw [e]
    simpa using ih

/-! ## Both's edges -/
theorem both_occ (g h o : Grammar) (ho : o.Rules = g.Rules ++ h.Rules.map (shR (g.Names.length : Int))) (e : Edge) : Occ o e ↔ Occ g e ∨ ∃ e', Occ h e' ∧ e = shE (g.Names.length : Int) e' := by
  unfold Occ OccR OccC OccS
  rw [ho]
  constructor
  · rintro ⟨r, hr, c, hc, s, hs, h0, rfl⟩
    rcases List.mem_append.1 hr with hr | hr
    · exact .inl ⟨r, hr, c, hc, s, hs, h0, rfl⟩
    · obtain ⟨r', hr', rfl⟩ := List.mem_map.1 hr
      obtain ⟨c', hc', rfl⟩ := List.mem_map.1 hc
      obtain ⟨s', hs', rfl⟩ := List.mem_map.1 hs
      unfold shS at h0
      split at h0
      · rename_i hn
        refine .inr ⟨_, ⟨r', hr', c', hc', s', hs', hn, rfl⟩, ?_⟩
        unfold eOf shE shR shC shS
        simp only [if_pos hn]
      · omega
  · rintro (⟨r, hr, c, hc, s, hs, h0, rfl⟩ | ⟨_, ⟨r, hr, c, hc, s, hs, h0, rfl⟩, rfl⟩)
    · exact ⟨r, List.mem_append_left _ hr, c, hc, s, hs, h0, rfl⟩
    · refine ⟨shR (g.Names.length : Int) r, List.mem_append_right _ (List.mem_map.2 ⟨r, hr, rfl⟩), shC (g.Names.length : Int) c, List.mem_map.2 ⟨c, hc, rfl⟩, shS (g.Names.length : Int) s, List.mem_map.2 ⟨s, hs, rfl⟩, ?_, ?_⟩
      · unfold shS; rw [if_pos h0]; simp only; omega
      · unfold eOf shE shR shC shS
        simp only [if_pos h0]
theorem pairwise_eLt' (g : Grammar) : (edgesOf g).Pairwise eLt := by
  rw [List.pairwise_iff_getElem]
  intro i j hi hj hij
  have h1 := List.pairwise_iff_getElem.1 (edgesOf_pairwise g) i j hi hj hij
  have h2 := List.pairwise_iff_getElem.1 (edges_nodup g) i j hi hj hij
  refine (rowC_lt _ _).1 ?_
  cases hc : ltOf rowC (edgesOf g)[i] (edgesOf g)[j] with
  | true => rfl
  | false => exact absurd (rowC_anti _ _ hc (by simpa using h1)) h2
theorem both_edges (g h o : Grammar) (hg : mayP g) (hh : mayP h) (ho : o.Rules = g.Rules ++ h.Rules.map (shR (g.Names.length : Int))) : edgesOf o = edgesOf g ++ (edgesOf h).map (shE (g.Names.length : Int)) := by
  refine edgesOf_is o (List.pairwise_append.2 ⟨pairwise_eLt' g, ?_, fun a ha b hb => ?_⟩) fun e => ?_
  · rw [List.pairwise_map]
    refine (pairwise_eLt' h).imp fun {a b} hab => ?_
    unfold eLt shE at *
    simp only
    rcases hab with h1 | ⟨h1, h2 | ⟨h2, h3⟩⟩
    · exact .inl (by omega)
    · exact .inr ⟨by omega, .inl (by omega)⟩
    · exact .inr ⟨by omega, .inr ⟨by omega, h3⟩⟩
  · obtain ⟨b', hb', rfl⟩ := List.mem_map.1 hb
    have h1 := occ_bounds hg ((mem_edges g a).1 ha)
    have h2 := occ_bounds hh ((mem_edges h b').1 hb')
    exact .inl (by show a.From < b'.From + _; omega)
  · rw [both_occ g h o ho e, List.mem_append, mem_edges, List.mem_map]
    refine or_congr Iff.rfl ⟨?_, ?_⟩
    · rintro ⟨e', h1, rfl⟩; exact ⟨e', (mem_edges h e').1 h1, rfl⟩
    · rintro ⟨e', h1, rfl⟩; exact ⟨e', (mem_edges h e').2 h1, rfl⟩
theorem DependsBoth_true (K : Nat) (hK : KW ≤ K) (g h : Grammar) (wg : SzG g) (wh : SzG h) : templelaw6_DependsBoth (K + 100) g h = some true := by
  have hK' : 140737488355328 ≤ K := hK
  obtain ⟨b, hb, _, _, h1, _⟩ := Edges_both (K + 100) (by omega) g
  obtain ⟨b2, hb2, _, _, h2, _⟩ := Edges_both (K + 100) (by omega) h
  unfold templelaw6_DependsBoth
  rw [awake6 (K + 100) (by omega), Option.bind_some, if_neg (by decide), h1, Option.bind_some, h2, Option.bind_some]
  simp only [templelaw0_Num, Option.bind_some]
  cases b with
  | false =>
    simp only [Bool.false_eq_true, if_false]
    rw [if_pos (by decide)]; rfl
  | true =>
  simp only [if_true]
  rw [if_neg (fun h => h rfl)]
  cases b2 with
  | false =>
    simp only [Bool.false_eq_true, if_false]
    rw [if_pos (by decide)]
    split <;> rfl
  | true =>
  simp only [if_true]
  rw [if_neg (fun h => h rfl)]
  have mg := hb.1 rfl
  have mh := hb2.1 rfl
  have ng := mg.1.2.1
  have nh := mh.1.2.1
  have rg := mg.2.2.2.2.1
  have rh := mh.2.2.2.2.1
  have lg := edges_len g (may_bd mg)
  have lh := edges_len h (may_bd mh)
  rw [wr (by omega) (by omega), wr (by omega) (by omega)]
  split
  · rfl
  split
  · rfl
  rename_i q1 q2
  rw [Copy_spec (K + 100) (by unfold KW; omega) g wg, Option.bind_some, Copy_spec (K + 100) (by unfold KW; omega) h wh, Option.bind_some]
  obtain ⟨ys, z, e0, ly⟩ := both_l0 K g ng g.Names.length 0 (K + 100) g.Names rfl (by omega) (by omega)
  rw [show ((0 : Nat) : Int) = 0 from rfl] at e0
  rw [e0, Option.bind_some]
  simp only
  obtain ⟨zs, z1, e1⟩ := both_l1 K h nh h.Names.length 0 (K + 100) ys (by omega) (by omega) (by omega)
  rw [show ((0 : Nat) : Int) = 0 from rfl] at e1
  rw [e1, Option.bind_some]
  simp only
  have hall : ∀ r ∈ h.Rules, 0 ≤ r.Head ∧ r.Head ≤ 64 ∧ r.Conj.length ≤ 8 ∧ ∀ c ∈ r.Conj, conjP 64 c := fun r hr => by
    have := may_heads mh r hr
    refine ⟨this.1, by omega, this.2.2.2.1, fun c hc => ⟨(this.2.2.2.2 c hc).1, fun s hs => ?_⟩⟩
    rcases (this.2.2.2.2 c hc).2 s hs with h | h
    · exact .inl h
    · exact .inr ⟨h.1, by omega, h.2.2⟩
  have e2 := both_l2 (K + 100) (by omega) g h ng rh rg hall h.Rules.length 0 (K + 100) (by omega) (by omega)
  rw [show ((0 : Nat) : Int) = 0 from rfl, List.take_zero, List.map_nil, List.append_nil] at e2
  rw [e2, Option.bind_some]
  simp only
  have hedge := both_edges g h (⟨g.Start, zs, g.Rules ++ h.Rules.map (shR (g.Names.length : Int))⟩ : Grammar) mg mh rfl
  generalize (⟨g.Start, zs, g.Rules ++ h.Rules.map (shR (g.Names.length : Int))⟩ : Grammar) = o at hedge ⊢
  obtain ⟨b3, hb3, _, _, h3, _⟩ := Edges_both (K + 100) (by omega) o
  rw [h3, Option.bind_some]
  cases b3 with
  | false =>
    simp only [Bool.false_eq_true, if_false]
    rw [if_pos (by decide)]; rfl
  | true =>
  simp only [if_true]
  rw [if_neg (fun h => h rfl), if_pos (by simp only [List.length_nil]; omega)]
  have lo := edges_len o (may_bd (hb3.1 rfl))
  have e5 := both_l5 (K + 100) g ng (edgesOf h) lh (fun e he => by have := occ_bounds mh ((mem_edges h e).1 he); omega) ([] ++ edgesOf g) (by rw [List.nil_append]; exact lg) (edgesOf h).length 0 (K + 100) (by omega) (by omega)
  rw [show ((0 : Nat) : Int) = 0 from rfl, List.take_zero, List.map_nil, List.append_nil] at e5
  rw [e5, Option.bind_some]
  simp only
  rw [List.nil_append, ← hedge, SameEdges_refl _ _ (by omega) (by omega)]
  rfl
theorem DependsBoth_holds (g h : Grammar) (wg : wfGrammar g) (wh : wfGrammar h) : ∃ K, templelaw6_DependsBoth K g h = some true := ⟨KW + 100, DependsBoth_true KW (Nat.le_refl _) g h (SzG_wf wg) (SzG_wf wh)⟩
end Go.Proofs.Ytnkpelhaablheaa
