/-
  Chapter 8: law LevelsOver. Own work; no claim stands here.
-/
import Derived.Test.YtimkikccmpgipaaPLaw8
namespace Go.Proofs.Ytimkikccmpgipaa
open S Go.Sort
set_option linter.unusedVariables false
set_option linter.unusedSimpArgs false
set_option maxRecDepth 100000

theorem idx (x : Int) (n : Nat) (h1 : 1 ≤ n) (h2 : n ≤ 100000) : 0 ≤ IntKind.wrap .i64 (Int.tmod (IntKind.wrap .u64 x) (IntKind.wrap .u64 (n : Int))) ∧ IntKind.wrap .i64 (Int.tmod (IntKind.wrap .u64 x) (IntKind.wrap .u64 (n : Int))) < (n : Int) := by
  have e : IntKind.wrap .u64 (n : Int) = (n : Int) := wu (by omega) (by omega)
  have h3 : 0 ≤ IntKind.wrap .u64 x := by rw [wrap_u64]; omega
  rw [e]
  have h4 : 0 ≤ Int.tmod (IntKind.wrap .u64 x) (n : Int) := Int.tmod_nonneg _ h3
  have h5 : Int.tmod (IntKind.wrap .u64 x) (n : Int) < (n : Int) := Int.tmod_lt_of_pos _ (by omega)
  rw [wr (by omega) (by omega)]
  exact ⟨h4, h5⟩
def over (g : Grammar) (k : Int) (neg : Bool) : Grammar := (⟨g.Start, g.Names ++ ([(⟨#[110, 48, 116]⟩ : ByteArray)] : List ByteArray), g.Rules ++ ([(⟨(g.Names.length : Int), ([(⟨neg, ([(⟨k, (0 : Int), (0 : Int)⟩ : Symbol)] : List Symbol)⟩ : Conjunct)] : List Conjunct)⟩ : Rule)] : List Rule)⟩ : Grammar)
theorem over_occ (g : Grammar) (k : Int) (neg : Bool) (hk : 0 ≤ k) (e : Edge) : Occ (over g k neg) e ↔ Occ g e ∨ e = ⟨(g.Names.length : Int), k, neg⟩ := by
  constructor
  · rintro ⟨r, hr, c, hc, s, hs, h0, rfl⟩
    rcases List.mem_append.1 hr with hr | hr
    · exact .inl ⟨r, hr, c, hc, s, hs, h0, rfl⟩
    · rw [List.mem_singleton] at hr; subst hr
      rw [List.mem_singleton] at hc; subst hc
      rw [List.mem_singleton] at hs; subst hs
      exact .inr rfl
  · rintro (⟨r, hr, c, hc, s, hs, h0, rfl⟩ | rfl)
    · exact ⟨r, List.mem_append_left _ hr, c, hc, s, hs, h0, rfl⟩
    · exact ⟨_, List.mem_append_right _ (.head _), _, .head _, _, .head _, hk, rfl⟩
theorem rd_app_l {T : Type} [Inhabited T] {xs ys : List T} {i : Int} (h0 : 0 ≤ i) (h : i < xs.length) : rd (xs ++ ys) i = rd xs i := by
  obtain ⟨j, rfl⟩ := Int.eq_ofNat_of_zero_le h0
  rw [rd_nat, rd_nat, List.getD_eq_getElem?_getD, List.getD_eq_getElem?_getD, List.getElem?_append_left (by omega)]
theorem rd_app_n {T : Type} [Inhabited T] {xs : List T} {y : T} : rd (xs ++ [y]) (xs.length : Int) = y := by
  rw [rd_nat, List.getD_eq_getElem?_getD, List.getElem?_append_right (Nat.le_refl _), Nat.sub_self]; rfl
theorem over_out {g : Grammar} {xs : List Int} (hm : mayP g) (hno : ∀ e ∈ edgesOf g, ¬ Cyc (edgesOf g) e) (hx : Lev g.Names.length (edgesOf g) xs) (k : Int) (neg : Bool) (hk0 : 0 ≤ k) (hk1 : k < (g.Names.length : Int)) (hm' : mayP (over g k neg)) :
    StrOut (over g k neg) (xs ++ [rd xs k + ng ⟨(g.Names.length : Int), k, neg⟩], [], 0) := by
  have hmem : ∀ e, e ∈ edgesOf (over g k neg) ↔ e ∈ edgesOf g ∨ e = ⟨(g.Names.length : Int), k, neg⟩ := fun e => by rw [mem_edges, mem_edges, over_occ g k neg hk0]
  have hf := fit_edges hm
  have hlen := hx.1.1
  have hlen' : (over g k neg).Names.length = g.Names.length + 1 := by simp [over]
  have hng := ng_le ⟨(g.Names.length : Int), k, neg⟩
  have back : ∀ {x y : Int}, Reach (edgesOf (over g k neg)) x y → x < (g.Names.length : Int) → y < (g.Names.length : Int) ∧ Reach (edgesOf g) x y := by
    intro x y h hxn
    induction h with
    | refl => exact ⟨hxn, .refl _⟩
    | @step e _ he ih =>
      obtain ⟨i1, i2⟩ := ih
      rcases (hmem _).1 he with he | rfl
      · exact ⟨(hf _ he).2.2, .step i2 he⟩
      · exact absurd i1 (Int.lt_irrefl _)
  refine .inr ⟨hm', .inr ⟨fun e he hc => ?_, _, ⟨⟨by rw [hlen']; simp; omega, fun i a b => ?_, fun P hP hp i a b => ?_⟩, fun e he => ?_⟩, rfl⟩⟩
  · rcases (hmem e).1 he with he | rfl
    · exact hno e he ⟨hc.1, (back hc.2 (hf e he).2.2).2⟩
    · exact absurd (back hc.2 hk1).1 (Int.lt_irrefl _)
  · by_cases c : i < (g.Names.length : Int)
    · rw [rd_app_l a (by omega)]; exact hx.1.2.1 i a c
    · have : i = (xs.length : Int) := by omega
      subst this
      rw [rd_app_n]
      have := hx.1.2.1 k hk0 hk1
      omega
  · have hP' : Stab (edgesOf g) P := fun e he => hP e ((hmem e).2 (.inl he))
    have hp' : Pos g.Names.length P := fun i a b => hp i a (by omega)
    by_cases c : i < (g.Names.length : Int)
    · rw [rd_app_l a (by omega)]; exact hx.1.2.2 P hP' hp' i a c
    · have : i = (xs.length : Int) := by omega
      subst this
      rw [rd_app_n]
      have h1 := hx.1.2.2 P hP' hp' k hk0 hk1
      have h2 := hP _ ((hmem _).2 (.inr rfl))
      simp only at h2
      rw [hlen]; omega
  · rcases (hmem e).1 he with he | rfl
    · obtain ⟨⟨a, b⟩, c, d⟩ := hf e he
      rw [rd_app_l a (by omega), rd_app_l c (by omega)]
      exact hx.2 e he
    · simp only
      rw [rd_app_l hk0 (by omega), show (g.Names.length : Int) = (xs.length : Int) by rw [hlen], rd_app_n]
      rw [hlen]; omega
def Km (g : Grammar) (name : Int) : Int := IntKind.wrap .i64 (Int.tmod (IntKind.wrap .u64 name) (IntKind.wrap .u64 (g.Names.length : Int)))
theorem Over_eq (K : Nat) (g : Grammar) (name : Int) (neg : Bool) : templelaw8_LevelsOver K g name neg = (templelaw8_awake K).bind fun r_4 => if (!r_4) = true then some false else (strata_Strata K g).bind fun r_7 => (templelaw0_Num K r_7.2.2).bind fun r_11 => if r_11 ≠ 0 then (templelaw0_Num K r_7.2.2).bind fun r_14 => some (decide (r_14 ≠ 0)) else if (r_7.1.length : Int) ≠ (g.Names.length : Int) then (templelaw0_Num K r_7.2.2).bind fun r_17 => some (decide (r_17 ≠ 0)) else if (r_7.1.length : Int) = 0 then (templelaw0_Num K r_7.2.2).bind fun r_20 => some (decide (r_20 ≠ 0)) else if IntKind.wrap .u64 (g.Names.length : Int) ≠ 0 then (templelaw0_CopyGrammar K g).bind fun r_23 => if (r_23.Names.length + ([(⟨#[110, 48, 116]⟩ : ByteArray)] : List ByteArray).length) * 16 ≤ 140737488355328 then if (r_23.Rules.length + ([(⟨(g.Names.length : Int), ([(⟨neg, ([(⟨Km g name, (0 : Int), (0 : Int)⟩ : Symbol)] : List Symbol)⟩ : Conjunct)] : List Conjunct)⟩ : Rule)] : List Rule).length) * 32 ≤ 140737488355328 then (strata_Strata K (⟨r_23.Start, r_23.Names ++ ([(⟨#[110, 48, 116]⟩ : ByteArray)] : List ByteArray), r_23.Rules ++ ([(⟨(g.Names.length : Int), ([(⟨neg, ([(⟨Km g name, (0 : Int), (0 : Int)⟩ : Symbol)] : List Symbol)⟩ : Conjunct)] : List Conjunct)⟩ : Rule)] : List Rule)⟩ : Grammar)).bind fun r_32 => (templelaw0_Num K r_32.2.2).bind fun r_36 => if r_36 ≠ 0 then (templeref1_May K (⟨r_23.Start, r_23.Names ++ ([(⟨#[110, 48, 116]⟩ : ByteArray)] : List ByteArray), r_23.Rules ++ ([(⟨(g.Names.length : Int), ([(⟨neg, ([(⟨Km g name, (0 : Int), (0 : Int)⟩ : Symbol)] : List Symbol)⟩ : Conjunct)] : List Conjunct)⟩ : Rule)] : List Rule)⟩ : Grammar)).bind fun r_39 => some (!r_39) else if 0 ≤ Km g name then if Km g name < (r_7.1.length : Int) then (if neg = true then some (IntKind.wrap .i64 ((rd r_7.1 (Km g name)) + 1)) else some (rd r_7.1 (Km g name))).bind fun want_43 => if (r_32.1.length : Int) = (IntKind.wrap .i64 ((r_7.1.length : Int) + 1)) then if (r_7.1.length : Int) ≤ (r_32.1.length : Int) then (templelaw0_SameInts K (sl r_32.1 0 (r_7.1.length : Int)) r_7.1).bind fun r_48 => if r_48 = true then if (r_7.1.length : Int) < (r_32.1.length : Int) then some (decide ((rd r_32.1 (r_7.1.length : Int)) = want_43)) else none else some false else none else some false else none else none else none else none else none := rfl
theorem LevelsOver_true (K : Nat) (hK : KW ≤ K) (g : Grammar) (hg : SzG g) (name : Int) (neg : Bool) : templelaw8_LevelsOver K g name neg = some true := by
  have hK' : 140737488355328 ≤ K := hK
  obtain ⟨r, h1, h3⟩ := Strata_spec K (by omega) g
  rw [Over_eq, awake8 K (by omega), Option.bind_some, if_neg (by decide), h1, Option.bind_some]
  simp only [templelaw0_Num, Option.bind_some]
  by_cases hz : r.2.2 ≠ 0
  · rw [if_pos hz, decide_eq_true hz]
  rw [if_neg hz]
  rcases h3 with ⟨_, rfl⟩ | ⟨hm, ⟨c, hc, rfl⟩ | ⟨hno, xs, hx, rfl⟩⟩
  · exact absurd (show (800 : Int) ≠ 0 by decide) hz
  · exact absurd (show (801 : Int) ≠ 0 by decide) hz
  have hlen := hx.1.1
  have hn := hm.1.2.1
  have hn1 : 1 ≤ g.Names.length := hm.1.1
  have hr256 := hm.2.2.2.2.1
  obtain ⟨k0, k1⟩ := idx name g.Names.length hn1 (by omega)
  have k0' : 0 ≤ Km g name := k0
  have k1' : Km g name < (g.Names.length : Int) := k1
  obtain ⟨r', h4, h5⟩ := Strata_spec K (by omega) (over g (Km g name) neg)
  simp only
  rw [if_neg (fun h => h (by rw [hlen])), if_neg (by omega), if_pos (by rw [wu (by omega) (by omega)]; omega), Copy_spec K hK g hg, Option.bind_some, if_pos (by simp only [List.length_cons, List.length_nil]; omega), if_pos (by simp only [List.length_cons, List.length_nil]; omega)]
  have h4' : strata_Strata K (⟨g.Start, g.Names ++ ([(⟨#[110, 48, 116]⟩ : ByteArray)] : List ByteArray), g.Rules ++ ([(⟨(g.Names.length : Int), ([(⟨neg, ([(⟨Km g name, (0 : Int), (0 : Int)⟩ : Symbol)] : List Symbol)⟩ : Conjunct)] : List Conjunct)⟩ : Rule)] : List Rule)⟩ : Grammar) = some r' := h4
  rw [h4', Option.bind_some]
  obtain ⟨b, hb, hb2⟩ := rMay_spec K (by omega) (over g (Km g name) neg)
  have hb' : templeref1_May K (⟨g.Start, g.Names ++ ([(⟨#[110, 48, 116]⟩ : ByteArray)] : List ByteArray), g.Rules ++ ([(⟨(g.Names.length : Int), ([(⟨neg, ([(⟨Km g name, (0 : Int), (0 : Int)⟩ : Symbol)] : List Symbol)⟩ : Conjunct)] : List Conjunct)⟩ : Rule)] : List Rule)⟩ : Grammar) = some b := hb
  rw [hb', Option.bind_some]
  generalize hkk : Km g name = k at *
  by_cases hm' : mayP (over g k neg)
  · have := h5.uniq (over_out hm hno hx k neg k0' k1' hm')
    subst this
    have hxk := hx.1.2.1 k k0' k1'
    obtain ⟨P, p1, p2, p3⟩ := pot_of hm hno
    have hxP := hx.1.2.2 P p1 p2 k k0' k1'
    have hxp := p3 k k0' k1'
    have he : (if neg = true then some (IntKind.wrap .i64 (rd xs k + 1)) else some (rd xs k)) = some (rd xs k + ng ⟨(g.Names.length : Int), k, neg⟩) := by
      unfold ng
      split
      · rw [wr (by omega) (by omega)]
      · rw [Int.add_zero]
    have hsl : sl (xs ++ [rd xs k + ng ⟨(g.Names.length : Int), k, neg⟩]) 0 (xs.length : Int) = xs := by simp [sl]
    simp only
    rw [if_neg (fun h => h rfl), if_pos k0', if_pos (by omega), he, Option.bind_some, if_pos (by rw [wr (by omega) (by omega)]; simp), if_pos (by simp; omega), hsl, SameInts_spec K _ _ (by omega) (by omega), decide_eq_true rfl, Option.bind_some, if_pos rfl, if_pos (by simp; omega), rd_app_n, decide_eq_true rfl]
  · have h6 : r' = ([], [], 800) := h5.uniq (.inl ⟨hm', rfl⟩)
    subst h6
    have : b = false := by cases b with | false => rfl | true => exact absurd (hb2.1 rfl) hm'
    subst this
    rfl
theorem LevelsOver_holds (g : Grammar) (name : Int) (neg : Bool) (w : wfGrammar g) (_ : wfI .i64 name) (_ : wfB neg) : ∃ K, templelaw8_LevelsOver K g name neg = some true := ⟨KW, LevelsOver_true KW (Nat.le_refl _) g (SzG_wf w) name neg⟩
end Go.Proofs.Ytimkikccmpgipaa
