/-
  Chapter 9: law EmptysMore. Own work; no claim stands here.
-/
import Derived.Test.YtflbjhfklhidjaaPLaw9
namespace Go.Proofs.Ytflbjhfklhidjaa
open S Go.Sort
set_option linter.unusedVariables false
set_option linter.unusedSimpArgs false
set_option maxRecDepth 100000

/-! ## A list whose first ones are turned -/
def mix {T : Type} (f : T → T) (j : Nat) (c : List T) : List T := (c.take j).map f ++ c.drop j
theorem mix_zero {T : Type} (f : T → T) (c : List T) : mix f 0 c = c := by simp [mix]
theorem mix_all {T : Type} (f : T → T) (c : List T) : mix f c.length c = c.map f := by simp [mix]
theorem mix_len {T : Type} (f : T → T) (j : Nat) (c : List T) : (mix f j c).length = c.length := by
  simp only [mix, List.length_append, List.length_map, List.length_take, List.length_drop]; omega
theorem mix_rd {T : Type} [Inhabited T] (f : T → T) (j : Nat) (c : List T) (h : j < c.length) : rd (mix f j c) (j : Int) = rd c (j : Int) := by
  have hl : ((c.take j).map f).length = j := by simp; omega
  rw [rd_nat, rd_nat, List.getD_eq_getElem?_getD, List.getD_eq_getElem?_getD]
  unfold mix
  rw [List.getElem?_append_right (by omega), hl, Nat.sub_self, List.getElem?_drop, Nat.add_zero]
theorem mix_set {T : Type} [Inhabited T] (f : T → T) (j : Nat) (c : List T) (h : j < c.length) : (mix f j c).set j (f (rd c (j : Int))) = mix f (j + 1) c := by
  have hl : ((c.take j).map f).length = j := by simp; omega
  have e : rd c (j : Int) = c[j] := by rw [rd_nat, List.getD_eq_getElem?_getD, List.getElem?_eq_getElem h]; rfl
  unfold mix
  rw [List.set_append_right _ _ (by omega), hl, Nat.sub_self, List.drop_eq_getElem_cons h, List.set_cons_zero, e, List.take_add_one, List.getElem?_eq_getElem h, List.map_append]
  simp

def sC (c : Conjunct) : Conjunct := ⟨false, c.Seq⟩
def sR (r : Rule) : Rule := ⟨r.Head, r.Conj.map sC⟩
def sG (g : Grammar) : Grammar := ⟨g.Start, g.Names, g.Rules.map sR⟩
theorem la_l1 (K : Nat) (i : Nat) (H : Int) (c : List Conjunct) (hc : c.length ≤ 140737488351232) (xs : List Rule) (hi : i < xs.length) : ∀ (k j m : Nat), j + k = c.length → k < m →
    templelaw9_EmptysMore.l1 K (i : Int) m (xs.set i ⟨H, mix sC j c⟩, (j : Int)) = some (xs.set i ⟨H, c.map sC⟩, (c.length : Int))
  | 0, j, m, hj, hm => by
    obtain ⟨m, rfl⟩ : ∃ q, m = q + 1 := ⟨m - 1, by omega⟩
    have : j = c.length := by omega
    subst this
    have hr : rd (xs.set i (⟨H, mix sC c.length c⟩ : Rule)) (i : Int) = ⟨H, mix sC c.length c⟩ := by rw [rd_set _ hi, if_pos rfl]
    simp only [templelaw9_EmptysMore.l1]
    rw [hr]
    simp only
    rw [if_pos (by omega), if_pos (by rw [List.length_set]; omega), mix_len, if_neg (by omega), mix_all]
  | k + 1, j, m, hj, hm => by
    obtain ⟨m, rfl⟩ : ∃ q, m = q + 1 := ⟨m - 1, by omega⟩
    have ih := la_l1 K i H c hc xs hi k (j + 1) m (by omega) (by omega)
    have hr : rd (xs.set i (⟨H, mix sC j c⟩ : Rule)) (i : Int) = ⟨H, mix sC j c⟩ := by rw [rd_set _ hi, if_pos rfl]
    have hs : (mix sC j c).set j (⟨false, (rd c (j : Int)).Seq⟩ : Conjunct) = mix sC (j + 1) c := mix_set sC j c (by omega)
    simp only [templelaw9_EmptysMore.l1]
    rw [hr]
    simp only
    rw [if_pos (by omega), if_pos (by rw [List.length_set]; omega), mix_len, if_pos (by omega), if_pos (by omega), mix_rd sC j c (by omega), Int.toNat_natCast, Int.toNat_natCast, List.set_set, hs, wr (by omega) (by omega)]
    exact ih
theorem la_l0 (K : Nat) (hK : KW ≤ K) (g : Grammar) (hg : SzG g) : ∀ (k i m : Nat), i + k = g.Rules.length → k < m →
    templelaw9_EmptysMore.l0 K m (mix sR i g.Rules, (i : Int)) = some (g.Rules.map sR, (g.Rules.length : Int))
  | 0, i, m, hi, hm => by
    obtain ⟨m, rfl⟩ : ∃ q, m = q + 1 := ⟨m - 1, by omega⟩
    have : i = g.Rules.length := by omega
    subst this
    simp only [templelaw9_EmptysMore.l0]
    rw [mix_len, if_neg (by omega), mix_all]
  | k + 1, i, m, hi, hm => by
    have hK' : 140737488355328 ≤ K := hK
    obtain ⟨m, rfl⟩ : ∃ q, m = q + 1 := ⟨m - 1, by omega⟩
    have ih := la_l0 K hK g hg k (i + 1) m (by omega) (by omega)
    have hr := hg.2.2 _ (rd_mem (xs := g.Rules) (Int.natCast_nonneg i) (by omega))
    have hrl := hg.2.1
    have e : mix sR i g.Rules = (mix sR i g.Rules).set i ⟨(rd g.Rules (i : Int)).Head, mix sC 0 (rd g.Rules (i : Int)).Conj⟩ := by
      rw [mix_zero]
      refine rdi_ext (n := g.Rules.length) (mix_len _ _ _) (by rw [List.length_set, mix_len]) fun x a b => ?_
      obtain ⟨y, rfl⟩ := Int.eq_ofNat_of_zero_le a
      rw [rd_set _ (by rw [mix_len]; omega)]
      split
      · rename_i e2; subst e2; exact mix_rd sR i _ (by omega)
      · rfl
    have h1 := la_l1 K i (rd g.Rules (i : Int)).Head (rd g.Rules (i : Int)).Conj (by omega) (mix sR i g.Rules) (by rw [mix_len]; omega) (rd g.Rules (i : Int)).Conj.length 0 K (by omega) (by omega)
    rw [← e] at h1
    have h2 : (mix sR i g.Rules).set i ⟨(rd g.Rules (i : Int)).Head, (rd g.Rules (i : Int)).Conj.map sC⟩ = mix sR (i + 1) g.Rules := mix_set sR i g.Rules (by omega)
    rw [h2] at h1
    simp only [templelaw9_EmptysMore.l0]
    have h1' : templelaw9_EmptysMore.l1 K (i : Int) K (mix sR i g.Rules, 0) = some (mix sR (i + 1) g.Rules, ((rd g.Rules (i : Int)).Conj.length : Int)) := h1
    rw [mix_len, if_pos (by omega), h1', Option.bind_some, wr (by omega) (by omega)]
    exact ih

/-! ## Which grammars may be, stripped -/
theorem s_ruleP (n : Int) (r : Rule) : ruleP n (sR r) ↔ ruleP n r := by
  unfold ruleP sR
  simp only [List.length_map, List.mem_map]
  constructor
  · rintro ⟨h1, h2, h3⟩
    exact ⟨h1, h2, fun c hc => (h3 (sC c) ⟨c, hc, rfl⟩ : conjP n (sC c))⟩
  · rintro ⟨h1, h2, h3⟩
    exact ⟨h1, h2, fun c ⟨d, hd, e⟩ => by subst e; exact h3 d hd⟩
theorem s_sum (r : Rule) : sumR (sR r) = sumR r := by
  unfold sumR sR
  have : ∀ cs : List Conjunct, sumC (cs.map sC) = sumC cs := by
    intro cs
    induction cs with
    | nil => rfl
    | cons c cs ih => rw [List.map_cons, sumC, sumC, ih]; rfl
  exact this _
theorem s_total : ∀ rs : List Rule, total (rs.map sR) = total rs
  | [] => rfl
  | r :: rs => by rw [List.map_cons, total, total, s_sum, s_total rs]
theorem s_chain (n : Int) : ∀ (rs : List Rule) (h : Int), chainP n h (rs.map sR) ↔ chainP n h rs
  | [], h => Iff.rfl
  | r :: rs, h => by
    rw [List.map_cons, chainP, chainP, s_ruleP]
    have := s_chain n rs r.Head
    exact and_congr Iff.rfl (and_congr Iff.rfl this)
theorem s_may (g : Grammar) : mayP (sG g) ↔ mayP g := by
  have e : (rd (g.Rules.map sR) 0).Head = (rd g.Rules 0).Head := by
    cases g.Rules with
    | nil => rfl
    | cons r rs => rfl
  unfold mayP
  show namesP g.Names ∧ 0 ≤ g.Start ∧ g.Start < (g.Names.length : Int) ∧ 1 ≤ (g.Rules.map sR).length ∧ (g.Rules.map sR).length ≤ 256 ∧ (rd (g.Rules.map sR) 0).Head = 0 ∧ chainP (g.Names.length : Int) (-1) (g.Rules.map sR) ∧ total (g.Rules.map sR) ≤ 1024 ↔ _
  rw [List.length_map, s_total, s_chain, e]
theorem s_neg {g : Grammar} {e : Edge} (h : Occ (sG g) e) : e.Neg = false := by
  obtain ⟨r, hr, c, hc, s, hs, h0, rfl⟩ := h
  obtain ⟨r', hr', rfl⟩ := List.mem_map.1 hr
  obtain ⟨c', hc', rfl⟩ := List.mem_map.1 hc
  rfl
theorem flat {n : Nat} {es : List Edge} (hf : Fit n es) (h : ∀ e ∈ es, e.Neg = false) : Lev n es (List.replicate n 0) := by
  refine ⟨Low.zero n es, fun e he => ?_⟩
  obtain ⟨⟨a, b⟩, c, d⟩ := hf e he
  have : ng e = 0 := by unfold ng; rw [h e he]; rfl
  rw [rdi_rep _ a b, rdi_rep _ c d, this]; decide

/-! ## A rule more -/
def nilR (k : Int) : Rule := (⟨k, ([(⟨false, ([] : (List Symbol))⟩ : Conjunct)] : List Conjunct)⟩ : Rule)
def plusR (h : Grammar) (k : Int) : Grammar := ⟨h.Start, h.Names, h.Rules ++ [nilR k]⟩
theorem chain_snoc (n : Int) (x : Rule) (hx : ruleP n x) (hh : x.Head = n - 1) : ∀ (rs : List Rule) (h : Int), chainP n h rs → chainP n h (rs ++ [x])
  | [], h, hc => by
    have : h = n - 1 := hc
    exact ⟨hx, .inl (by omega), hh⟩
  | r :: rs, h, hc => by
    rw [chainP] at hc
    rw [List.cons_append, chainP]
    exact ⟨hc.1, hc.2.1, chain_snoc n x hx hh rs r.Head hc.2.2⟩
theorem total_app : ∀ (rs qs : List Rule), total (rs ++ qs) = total rs + total qs
  | [], qs => by simp [total]
  | r :: rs, qs => by rw [List.cons_append, total, total, total_app rs qs]; omega
theorem plus_may {h : Grammar} (hm : mayP h) (hl : h.Rules.length < 256) : mayP (plusR h ((h.Names.length : Int) - 1)) := by
  obtain ⟨m1, m2, m3, m4, m5, m6, m7, m8⟩ := hm
  have hr : ruleP (h.Names.length : Int) (nilR ((h.Names.length : Int) - 1)) := ⟨by simp [nilR], by simp [nilR], fun c hc => by
    simp only [nilR, List.mem_cons, List.not_mem_nil, or_false] at hc
    subst hc
    exact ⟨by simp, fun s hs => by cases hs⟩⟩
  refine ⟨m1, m2, m3, by simp [plusR], by simp [plusR]; omega, ?_, chain_snoc _ _ hr rfl _ _ m7, ?_⟩
  · show (rd (h.Rules ++ [nilR _]) 0).Head = 0
    cases hrs : h.Rules with
    | nil => rw [hrs] at m4; simp at m4
    | cons r rs => rw [hrs] at m6; exact m6
  · show total (h.Rules ++ [nilR _]) ≤ 1024
    rw [total_app]
    have : total [nilR ((h.Names.length : Int) - 1)] = 0 := rfl
    omega
theorem plus_neg {h : Grammar} {k : Int} (hn : ∀ e, Occ h e → e.Neg = false) {e : Edge} (he : Occ (plusR h k) e) : e.Neg = false := by
  obtain ⟨r, hr, c, hc, s, hs, h0, rfl⟩ := he
  rcases List.mem_append.1 hr with hr | hr
  · exact hn _ ⟨r, hr, c, hc, s, hs, h0, rfl⟩
  · rw [List.mem_singleton] at hr; subst hr
    have hc' : c ∈ [(⟨false, []⟩ : Conjunct)] := hc
    rw [List.mem_singleton] at hc'; subst hc'
    cases hs
theorem flat_out {h : Grammar} (hm : mayP h) (hn : ∀ e, Occ h e → e.Neg = false) : StrOut h (List.replicate h.Names.length 0, [], 0) := by
  have hneg : ∀ e ∈ edgesOf h, e.Neg = false := fun e he => hn e ((mem_edges _ e).1 he)
  exact .inr ⟨hm, .inr ⟨fun e he hc => (by have := hneg e he; rw [hc.1] at this; cases this), _, flat (fit_edges hm) hneg, rfl⟩⟩
theorem flat_nul {h : Grammar} {r : List Bool × Int} (hm : mayP h) (hn : ∀ e, Occ h e → e.Neg = false) (hr : NulOut h r) : ∃ has, r = (has, 0) ∧ PM h.Names.length h.Rules (rd (List.replicate h.Names.length (0 : Int))) has := by
  have so := flat_out hm hn
  rcases hr with ⟨s, h1, h2, rfl⟩ | ⟨_, xs, has, ho, hx, hp, rfl⟩
  · have := h1.uniq so
    subst this
    exact absurd rfl h2
  · have := ho.uniq so
    cases this
    exact ⟨has, rfl, hp⟩
theorem EmptysMore_true (K : Nat) (hK : KW ≤ K) (g : Grammar) (hg : SzG g) : templelaw9_EmptysMore K g = some true := by
  have hK' : 140737488355328 ≤ K := hK
  obtain ⟨r, h1, h2⟩ := Nulls_spec K (by omega) (sG g)
  have hl := la_l0 K hK g hg g.Rules.length 0 K (by omega) (by have := hg.2.1; omega)
  rw [mix_zero] at hl
  have hl' : templelaw9_EmptysMore.l0 K K (g.Rules, 0) = some (g.Rules.map sR, (g.Rules.length : Int)) := hl
  have h1' : nulls_Nulls K (⟨g.Start, g.Names, g.Rules.map sR⟩ : Grammar) = some r := h1
  unfold templelaw9_EmptysMore
  rw [awake9 K (by omega), Option.bind_some, if_neg (by decide), Copy_spec K hK g hg, Option.bind_some, hl', Option.bind_some]
  simp only
  rw [h1', Option.bind_some]
  simp only [templelaw0_Num, Option.bind_some]
  by_cases hm : mayP (sG g)
  · have hneg : ∀ e, Occ (sG g) e → e.Neg = false := fun e he => s_neg he
    obtain ⟨a, rfl, ha⟩ := flat_nul hm hneg h2
    have hal := ha.len
    have hal' : a.length = g.Names.length := hal
    have hn : g.Names.length ≤ 64 := hm.1.2.1
    have hn1 : 1 ≤ g.Names.length := hm.1.1
    simp only
    rw [if_neg (fun h => h rfl), if_neg (fun h => h (by rw [hal']))]
    by_cases hc : 256 ≤ ((g.Rules.map sR).length : Int)
    · rw [if_pos hc]
    rw [if_neg hc, if_pos (by simp only [List.length_cons, List.length_nil]; omega), wr (a := (g.Names.length : Int) - 1) (by omega) (by omega)]
    have hm2 := plus_may hm (by show (g.Rules.map sR).length < 256; omega)
    obtain ⟨r', h3, h4⟩ := Nulls_spec K (by omega) (plusR (sG g) ((g.Names.length : Int) - 1))
    obtain ⟨b, rfl, hb⟩ := flat_nul hm2 (fun e he => plus_neg hneg he) h4
    have h3' : nulls_Nulls K (⟨g.Start, g.Names, g.Rules.map sR ++ ([(⟨(g.Names.length : Int) - 1, ([(⟨false, ([] : (List Symbol))⟩ : Conjunct)] : List Conjunct)⟩ : Rule)] : List Rule)⟩ : Grammar) = some (b, 0) := h3
    have hbl : b.length = g.Names.length := hb.len
    have hk : rd b ((g.Names.length : Int) - 1) = true := hb.cl (nilR ((g.Names.length : Int) - 1)) (List.mem_append_right _ (.head _)) rfl
    have hz : ∀ y : Int, 0 ≤ y → y < g.Names.length → rd (List.replicate g.Names.length (0 : Int)) y = 0 := fun y a b => rdi_rep _ a b
    have hab : ∀ y : Int, 0 ≤ y → y < g.Names.length → rd a y = true → rd b y = true := fun y c d hy =>
      ha.mi 0 b (fun z e f hz2 => (by have : rd (List.replicate g.Names.length (0 : Int)) z < 0 := hz2; rw [hz z e f] at this; omega)) (fun q hq _ hh => hb.cl q (List.mem_append_left _ hq) hh) y c d (hz y c d) hy
    rw [h3', Option.bind_some]
    simp only
    rw [if_neg (fun h => h rfl), if_neg (fun h => h (by rw [hal', hbl])), if_pos (by omega), if_pos (by omega), hk, if_neg (by decide)]
    have := scan_none (n := a.length) (K := K) (L := templelaw9_EmptysMore.l2 K (a, 0) (b, 0)) (by omega) (fun m i hi => by
      simp only [templelaw9_EmptysMore.l2]
      rw [if_pos (by omega), if_pos (by omega), wr (by omega) (by omega)]
      cases hx : rd a (i : Int) with
      | false => rw [if_neg (by decide)]
      | true => rw [if_pos rfl, if_pos (by omega), hab (i : Int) (by omega) (by omega) hx, if_neg (by decide)]) (fun m => by simp only [templelaw9_EmptysMore.l2]; rw [if_neg (by omega)])
    rw [this]
    rfl
  · have : r = ([], 900) := by
      obtain ⟨s, hs, hs2⟩ := Strata_spec K (by omega) (sG g)
      have : s = ([], [], 800) := hs2.uniq (.inl ⟨hm, rfl⟩)
      subst this
      exact h2.uniq (.inl ⟨_, hs2, show (800 : Int) ≠ 0 by decide, rfl⟩)
    subst this
    rfl
theorem EmptysMore_holds (g : Grammar) (w : wfGrammar g) : ∃ K, templelaw9_EmptysMore K g = some true := ⟨KW, EmptysMore_true KW (Nat.le_refl _) g (SzG_wf w)⟩
end Go.Proofs.Ytflbjhfklhidjaa
