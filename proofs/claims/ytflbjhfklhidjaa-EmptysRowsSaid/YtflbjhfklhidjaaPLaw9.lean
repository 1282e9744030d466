/-
  Chapter 9: awake; laws EmptysHold, EmptysNegs. Own work; no claim stands here.
-/
import Derived.Test.YtflbjhfklhidjaaPNul
namespace Go.Proofs.Ytflbjhfklhidjaa
open S Go.Sort
set_option linter.unusedVariables false
set_option linter.unusedSimpArgs false
set_option maxRecDepth 100000

theorem SameBools_spec (K : Nat) (a b : List Bool) (h : a.length < K) (hl : a.length ≤ 140737488351232) : templelaw0_SameBools K a b = some (decide (a = b)) := by
  unfold templelaw0_SameBools
  by_cases hlen : a.length = b.length
  · rw [if_neg (fun h => h (by rw [hlen]))]
    rcases ask_all (p := fun i => rd a (i : Int) = rd b (i : Int)) (L := templelaw0_SameBools.l0 K a b) h (fun m i hi => by
      simp only [templelaw0_SameBools.l0]
      rw [if_pos (by omega), if_pos (by omega), if_pos (by omega), wr (a := (i : Int) + 1) (by omega) (by omega)]
      by_cases e : rd a (i : Int) = rd b (i : Int)
      · rw [if_neg (fun h => h e)]; exact .inl ⟨e, rfl⟩
      · rw [if_pos e]; exact .inr ⟨e, rfl⟩) (fun m => by simp only [templelaw0_SameBools.l0]; rw [if_neg (by omega)]) with ⟨h1, h2⟩ | ⟨h1, h2⟩
    · rw [h1]
      have : a = b := rdi_ext (n := a.length) rfl hlen.symm fun i x y => by have := h2 i.toNat (by omega); rwa [Int.toNat_of_nonneg x] at this
      rw [decide_eq_true this]; rfl
    · rw [h1]
      have : a ≠ b := fun e => h2 fun i _ => by rw [e]
      rw [decide_eq_false this]; rfl
  · rw [if_pos (fun e => hlen (by omega)), decide_eq_false (fun e => hlen (by rw [e]))]

/-! ## awake -/
def gr1 : Grammar := (⟨(0 : Int), ([(⟨#[83]⟩ : ByteArray), (⟨#[65]⟩ : ByteArray)] : List ByteArray), ([(⟨(0 : Int), ([(⟨true, ([(⟨1, (0 : Int), (0 : Int)⟩ : Symbol)] : List Symbol)⟩ : Conjunct)] : List Conjunct)⟩ : Rule), (⟨1, ([(⟨false, ([(⟨(-1), 5, 6⟩ : Symbol)] : List Symbol)⟩ : Conjunct)] : List Conjunct)⟩ : Rule)] : List Rule)⟩ : Grammar)
def gr0 : Grammar := (⟨(0 : Int), ([] : (List ByteArray)), ([] : (List Rule))⟩ : Grammar)
theorem may1 (K : Nat) : gram_May (K + 1000) gr1 = some true := by kernel_rfl
theorem may0 (K : Nat) : gram_May (K + 1000) gr0 = some false := by kernel_rfl
theorem keys1 : keysOf gr1 = [(⟨0, 1, true⟩ : Edge)] := by kernel_rfl
theorem edges1 : edgesOf gr1 = [(⟨0, 1, true⟩ : Edge)] := edgesOf_is gr1 (by simp) fun e => by rw [← keys1]; exact keys_occ gr1 e
theorem cycle1 (K : Nat) : strata_cycle (K + 1000) 2 [(⟨0, 1, true⟩ : Edge)] = some [] := by kernel_rfl
theorem loop1 (K : Nat) : strata_Strata.l0 (K + 1000) ([(⟨0, 1, true⟩ : Edge)], 0) (K + 1000) ([0, 0], true) = some ([1, 0], false) := by kernel_rfl
theorem nloop1 (K : Nat) : nulls_Nulls.l0 (K + 1000) gr1 ([1, 0], [], 0) (K + 1000) ([false, false], 0) = some ([true, false], 2) := by kernel_rfl
theorem str1 (K : Nat) (hK : 200000 ≤ K) : strata_Strata K gr1 = some ([1, 0], [], 0) := by
  obtain ⟨K', rfl⟩ : ∃ q, K = q + 1000 := ⟨K - 1000, by omega⟩
  obtain ⟨b, hb, _, he⟩ := Edges_spec (K' + 1000) hK gr1
  rw [may1] at hb
  cases hb
  unfold strata_Strata
  rw [he, Option.bind_some, if_pos rfl, if_neg (fun h => h rfl), edges1]
  have h1 : strata_cycle (K' + 1000) (gr1.Names.length : Int) [(⟨0, 1, true⟩ : Edge)] = some [] := cycle1 K'
  have h2 : strata_Strata.l0 (K' + 1000) ([(⟨0, 1, true⟩ : Edge)], 0) (K' + 1000) (List.replicate (gr1.Names.length : Int).toNat 0, true) = some ([1, 0], false) := loop1 K'
  simp only
  rw [h1, Option.bind_some, if_neg (fun h => h rfl), if_pos (by decide), h2]
  rfl
theorem str0 (K : Nat) (hK : 200000 ≤ K) : strata_Strata K gr0 = some ([], [], 800) := by
  obtain ⟨K', rfl⟩ : ∃ q, K = q + 1000 := ⟨K - 1000, by omega⟩
  obtain ⟨b, hb, _, he⟩ := Edges_spec (K' + 1000) hK gr0
  rw [may0] at hb
  cases hb
  unfold strata_Strata
  rw [he, Option.bind_some, if_neg Bool.false_ne_true, if_pos (by decide)]
theorem nul1 (K : Nat) (hK : 200000 ≤ K) : nulls_Nulls K gr1 = some ([true, false], 0) := by
  have h1 := str1 K hK
  obtain ⟨K', rfl⟩ : ∃ q, K = q + 1000 := ⟨K - 1000, by omega⟩
  have h2 : nulls_Nulls.l0 (K' + 1000) gr1 ([1, 0], [], 0) (K' + 1000) (List.replicate (gr1.Names.length : Int).toNat false, 0) = some ([true, false], 2) := nloop1 K'
  unfold nulls_Nulls
  rw [h1, Option.bind_some, if_neg (fun h => h rfl), if_pos (by decide), h2]
  rfl
theorem nul0 (K : Nat) (hK : 200000 ≤ K) : nulls_Nulls K gr0 = some ([], 900) := by
  unfold nulls_Nulls
  rw [str0 K hK, Option.bind_some, if_pos (show (800 : Int) ≠ 0 by decide)]
theorem awake9 (K : Nat) (hK : 200000 ≤ K) : templelaw9_awake K = some true := by
  have h1 := nul1 K hK
  have h0 := nul0 K hK
  unfold gr1 at h1
  unfold gr0 at h0
  unfold templelaw9_awake
  rw [h1, Option.bind_some, h0, Option.bind_some]
  simp only [templelaw0_Num, Option.bind_some]
  rw [SameBools_spec K _ _ (by show 2 < K; omega) (by show 2 ≤ _; omega), Option.bind_some, decide_eq_true rfl, if_pos rfl]
  rfl

/-! ## EmptysHold -/
theorem foldl_or {α : Type} (p : α → Bool) : ∀ (l : List α) (s : Bool), l.foldl (fun s e => s || p e) s = (s || l.any p)
  | [], s => by simp
  | x :: l, s => by rw [List.foldl_cons, foldl_or p l, List.any_cons, Bool.or_assoc]
theorem foldl_and {α : Type} (p : α → Bool) : ∀ (l : List α) (s : Bool), l.foldl (fun s e => s && p e) s = (s && l.all p)
  | [], s => by simp
  | x :: l, s => by rw [List.foldl_cons, foldl_and p l, List.all_cons, Bool.and_assoc]
theorem eh_l3 (K : Nat) (hK : 1000 ≤ K) (g : Grammar) (has : List Bool) (q i : Int) (j : Nat) (h64 : (rd (rd g.Rules i).Conj (j : Int)).Seq.length ≤ 64) (hs : ∀ s ∈ (rd (rd g.Rules i).Conj (j : Int)).Seq, 0 ≤ s.Name → s.Name < has.length) :
    templelaw9_EmptysHold.l3 K g (has, q) i (j : Int) K (true, 0) = some (emptyC has (rd (rd g.Rules i).Conj (j : Int)), ((rd (rd g.Rules i).Conj (j : Int)).Seq.length : Int)) := by
  have := foldLoop (rd (rd g.Rules i).Conj (j : Int)).Seq (templelaw9_EmptysHold.l3 K g (has, q) i (j : Int)) (fun s e => s && symE has e) (fun m s t ht => by
    have hm := rd_mem (xs := (rd (rd g.Rules i).Conj (j : Int)).Seq) (Int.natCast_nonneg t) (by omega)
    simp only [templelaw9_EmptysHold.l3]
    rw [if_pos (by omega), if_pos (by omega), if_pos (by omega), wr (a := (t : Int) + 1) (by omega) (by omega)]
    generalize rd (rd (rd g.Rules i).Conj (j : Int)).Seq (t : Int) = x at hm ⊢
    unfold symE
    cases s with
    | false => rw [if_neg (by decide), Bool.false_and]
    | true =>
      rw [if_pos rfl, Bool.true_and]
      by_cases c : 0 ≤ x.Name
      · rw [if_pos c, if_pos (hs x hm c), decide_eq_true c, Bool.true_and]
        simp only [if_pos c]
      · rw [if_neg c, decide_eq_false c, Bool.false_and]) (fun m s => by simp only [templelaw9_EmptysHold.l3]; rw [if_pos (by omega), if_neg (by omega)]) K (by omega) true
  rw [this, foldl_and, Bool.true_and]
  rfl
theorem eh_l2 (K : Nat) (hK : 1000 ≤ K) (g : Grammar) (has : List Bool) (q i : Int) (hb : RuleBd (rd g.Rules i)) (hs : ∀ c ∈ (rd g.Rules i).Conj, ∀ s ∈ c.Seq, 0 ≤ s.Name → s.Name < has.length) :
    templelaw9_EmptysHold.l2 K g (has, q) i K (true, 0) = some (holdsR has (rd g.Rules i), ((rd g.Rules i).Conj.length : Int)) := by
  have h8 := hb.1
  have := foldLoop (rd g.Rules i).Conj (templelaw9_EmptysHold.l2 K g (has, q) i) (fun s c => s && (emptyC has c != c.Neg)) (fun m s t ht => by
    have hm := rd_mem (xs := (rd g.Rules i).Conj) (Int.natCast_nonneg t) (by omega)
    simp only [templelaw9_EmptysHold.l2]
    rw [if_pos (by omega), eh_l3 K hK g has q i t (hb.2 _ hm) (hs _ hm), Option.bind_some, wr (a := (t : Int) + 1) (by omega) (by omega)]
    generalize rd (rd g.Rules i).Conj (t : Int) = c
    simp only
    cases s with
    | false => rw [if_neg (by decide), Bool.false_and]
    | true =>
      rw [if_pos rfl, if_pos (by omega), Bool.true_and]
      cases emptyC has c <;> cases c.Neg <;> rfl) (fun m s => by simp only [templelaw9_EmptysHold.l2]; rw [if_neg (by omega)]) K (by omega) true
  rw [this, foldl_and, Bool.true_and]
  rfl
theorem eh_l1 (K : Nat) (hK : 1000 ≤ K) (g : Grammar) (has : List Bool) (q a : Int) (hb : Bd g) (hs : ∀ r ∈ g.Rules, ∀ c ∈ r.Conj, ∀ s ∈ c.Seq, 0 ≤ s.Name → s.Name < has.length) :
    templelaw9_EmptysHold.l1 K g (has, q) a K (false, 0) = some (g.Rules.any fun r => decide (r.Head = a) && holdsR has r, (g.Rules.length : Int)) := by
  have h256 := hb.1
  have := foldLoop g.Rules (templelaw9_EmptysHold.l1 K g (has, q) a) (fun s r => s || (decide (r.Head = a) && holdsR has r)) (fun m s t ht => by
    have hm := rd_mem (xs := g.Rules) (Int.natCast_nonneg t) (by omega)
    simp only [templelaw9_EmptysHold.l1]
    rw [if_pos (by omega), if_pos (by omega), wr (a := (t : Int) + 1) (by omega) (by omega)]
    by_cases c : (rd g.Rules (t : Int)).Head = a
    · rw [if_neg (fun h => h c), eh_l2 K hK g has q (t : Int) (hb.2 _ hm) (hs _ hm), Option.bind_some, decide_eq_true c, Bool.true_and]
      simp only
      cases s with
      | false => rw [if_neg (by decide), Bool.false_or]
      | true => rw [if_pos rfl, Bool.true_or]
    · rw [if_pos c, decide_eq_false c, Bool.false_and, Bool.or_false]) (fun m s => by simp only [templelaw9_EmptysHold.l1]; rw [if_neg (by omega)]) K (by omega) false
  rw [this, foldl_or, Bool.false_or]
theorem any_has {n : Nat} {rs : List Rule} {lv : Int → Int} {has : List Bool} (h : PM n rs lv has) (a : Int) (h0 : 0 ≤ a) (h1 : a < n) : (rs.any fun r => decide (r.Head = a) && holdsR has r) = rd has a := by
  cases hx : rd has a with
  | true =>
    obtain ⟨r, hr, e, hh⟩ := h.su a h0 h1 hx
    rw [List.any_eq_true]
    exact ⟨r, hr, by rw [decide_eq_true e, hh]; rfl⟩
  | false =>
    cases hb : (rs.any fun r => decide (r.Head = a) && holdsR has r) with
    | false => rfl
    | true =>
      obtain ⟨r, hr, e⟩ := List.any_eq_true.1 hb
      rw [Bool.and_eq_true, decide_eq_true_eq] at e
      have := h.cl r hr e.2
      rw [e.1, hx] at this; cases this
theorem EmptysHold_true (K : Nat) (hK : 200000 ≤ K) (g : Grammar) : templelaw9_EmptysHold K g = some true := by
  obtain ⟨r, h1, h2⟩ := Nulls_spec K hK g
  unfold templelaw9_EmptysHold
  rw [awake9 K hK, Option.bind_some, if_neg (by decide), h1, Option.bind_some]
  rcases h2 with ⟨s, _, _, rfl⟩ | ⟨hm, xs, has, ho, hx, hp, rfl⟩
  · rfl
  · obtain ⟨b, hb, hb2⟩ := rMay_spec K (by omega) g
    have : b = true := hb2.2 hm
    subst this
    have hlen := hp.len
    have hl := lv_ok hm hx
    have hn := hm.1.2.1
    simp only [templelaw0_Num, Option.bind_some]
    rw [if_neg (fun h => h rfl), if_neg (fun h => h (by rw [hlen])), hb, Option.bind_some, if_neg (by decide)]
    have := scan_none (n := g.Names.length) (K := K) (L := templelaw9_EmptysHold.l0 K g (has, 0)) (by omega) (fun m i hi => by
      simp only [templelaw9_EmptysHold.l0]
      rw [if_pos (by omega), eh_l1 K (by omega) g has 0 (i : Int) (may_bd hm) (fun r hr c hc s hs h0 => by rw [hlen]; exact ((hl r hr).2 c hc s hs h0).1), Option.bind_some]
      simp only
      rw [if_pos (by omega), if_pos (by omega), any_has hp (i : Int) (by omega) (by omega), if_neg (fun h => h rfl), wr (by omega) (by omega)]) (fun m => by simp only [templelaw9_EmptysHold.l0]; rw [if_neg (by omega)])
    rw [this]
    rfl
theorem EmptysHold_holds (g : Grammar) (_ : wfGrammar g) : ∃ K, templelaw9_EmptysHold K g = some true := ⟨200000, EmptysHold_true 200000 (Nat.le_refl _) g⟩

/-! ## EmptysNegs -/
theorem idx (x : Int) (n : Nat) (h1 : 1 ≤ n) (h2 : n ≤ 100000) : 0 ≤ IntKind.wrap .i64 (Int.tmod (IntKind.wrap .u64 x) (IntKind.wrap .u64 (n : Int))) ∧ IntKind.wrap .i64 (Int.tmod (IntKind.wrap .u64 x) (IntKind.wrap .u64 (n : Int))) < (n : Int) := by
  have e : IntKind.wrap .u64 (n : Int) = (n : Int) := wu (by omega) (by omega)
  have h3 : 0 ≤ IntKind.wrap .u64 x := by rw [wrap_u64]; omega
  rw [e]
  have h4 : 0 ≤ Int.tmod (IntKind.wrap .u64 x) (n : Int) := Int.tmod_nonneg _ h3
  have h5 : Int.tmod (IntKind.wrap .u64 x) (n : Int) < (n : Int) := Int.tmod_lt_of_pos _ (by omega)
  rw [wr (by omega) (by omega)]
  exact ⟨h4, h5⟩
def over (g : Grammar) (k : Int) (neg : Bool) : Grammar := (⟨g.Start, g.Names ++ ([(⟨#[110, 48, 116]⟩ : ByteArray)] : List ByteArray), g.Rules ++ ([(⟨(g.Names.length : Int), ([(⟨neg, ([(⟨k, (0 : Int), (0 : Int)⟩ : Symbol)] : List Symbol)⟩ : Conjunct)] : List Conjunct)⟩ : Rule)] : List Rule)⟩ : Grammar)
theorem over_occ (g : Grammar) (k : Int) (neg : Bool) (hk : 0 ≤ k) (e : Edge) : Occ (over g k neg) e ↔ Occ g e ∨ e = ⟨(g.Names.length : Int), k, neg⟩ := by
  constructor
  · rintro ⟨r, hr, c, hc, s, hs, h0, rfl⟩
    rcases List.mem_append.1 hr with hr | hr
    · exact .inl ⟨r, hr, c, hc, s, hs, h0, rfl⟩
    · rw [List.mem_singleton] at hr; subst hr
      rw [List.mem_singleton] at hc; subst hc
      rw [List.mem_singleton] at hs; subst hs
      exact .inr rfl
  · rintro (⟨r, hr, c, hc, s, hs, h0, rfl⟩ | rfl)
    · exact ⟨r, List.mem_append_left _ hr, c, hc, s, hs, h0, rfl⟩
    · exact ⟨_, List.mem_append_right _ (.head _), _, .head _, _, .head _, hk, rfl⟩
theorem rd_app_l {T : Type} [Inhabited T] {xs ys : List T} {i : Int} (h0 : 0 ≤ i) (h : i < xs.length) : rd (xs ++ ys) i = rd xs i := by
  obtain ⟨j, rfl⟩ := Int.eq_ofNat_of_zero_le h0
  rw [rd_nat, rd_nat, List.getD_eq_getElem?_getD, List.getD_eq_getElem?_getD, List.getElem?_append_left (by omega)]
theorem rd_app_n {T : Type} [Inhabited T] {xs : List T} {y : T} : rd (xs ++ [y]) (xs.length : Int) = y := by
  rw [rd_nat, List.getD_eq_getElem?_getD, List.getElem?_append_right (Nat.le_refl _), Nat.sub_self]; rfl
theorem over_out {g : Grammar} {xs : List Int} (hm : mayP g) (hno : ∀ e ∈ edgesOf g, ¬ Cyc (edgesOf g) e) (hx : Lev g.Names.length (edgesOf g) xs) (k : Int) (neg : Bool) (hk0 : 0 ≤ k) (hk1 : k < (g.Names.length : Int)) (hm' : mayP (over g k neg)) :
    StrOut (over g k neg) (xs ++ [rd xs k + ng ⟨(g.Names.length : Int), k, neg⟩], [], 0) := by
  have hmem : ∀ e, e ∈ edgesOf (over g k neg) ↔ e ∈ edgesOf g ∨ e = ⟨(g.Names.length : Int), k, neg⟩ := fun e => by rw [mem_edges, mem_edges, over_occ g k neg hk0]
  have hf := fit_edges hm
  have hlen := hx.1.1
  have hlen' : (over g k neg).Names.length = g.Names.length + 1 := by simp [over]
  have hng := ng_le ⟨(g.Names.length : Int), k, neg⟩
  have back : ∀ {x y : Int}, Reach (edgesOf (over g k neg)) x y → x < (g.Names.length : Int) → y < (g.Names.length : Int) ∧ Reach (edgesOf g) x y := by
    intro x y h hxn
    induction h with
    | refl => exact ⟨hxn, .refl _⟩
    | @step e _ he ih =>
      obtain ⟨i1, i2⟩ := ih
      rcases (hmem _).1 he with he | rfl
      · exact ⟨(hf _ he).2.2, .step i2 he⟩
      · exact absurd i1 (Int.lt_irrefl _)
  refine .inr ⟨hm', .inr ⟨fun e he hc => ?_, _, ⟨⟨by rw [hlen']; simp; omega, fun i a b => ?_, fun P hP hp i a b => ?_⟩, fun e he => ?_⟩, rfl⟩⟩
  · rcases (hmem e).1 he with he | rfl
    · exact hno e he ⟨hc.1, (back hc.2 (hf e he).2.2).2⟩
    · exact absurd (back hc.2 hk1).1 (Int.lt_irrefl _)
  · by_cases c : i < (g.Names.length : Int)
    · rw [rd_app_l a (by omega)]; exact hx.1.2.1 i a c
    · have : i = (xs.length : Int) := by omega
      subst this
      rw [rd_app_n]
      have := hx.1.2.1 k hk0 hk1
      omega
  · have hP' : Stab (edgesOf g) P := fun e he => hP e ((hmem e).2 (.inl he))
    have hp' : Pos g.Names.length P := fun i a b => hp i a (by omega)
    by_cases c : i < (g.Names.length : Int)
    · rw [rd_app_l a (by omega)]; exact hx.1.2.2 P hP' hp' i a c
    · have : i = (xs.length : Int) := by omega
      subst this
      rw [rd_app_n]
      have h1 := hx.1.2.2 P hP' hp' k hk0 hk1
      have h2 := hP _ ((hmem _).2 (.inr rfl))
      simp only at h2
      rw [hlen]; omega
  · rcases (hmem e).1 he with he | rfl
    · obtain ⟨⟨a, b⟩, c, d⟩ := hf e he
      rw [rd_app_l a (by omega), rd_app_l c (by omega)]
      exact hx.2 e he
    · simp only
      rw [rd_app_l hk0 (by omega), show (g.Names.length : Int) = (xs.length : Int) by rw [hlen], rd_app_n]
      rw [hlen]; omega
theorem holds_eq {A B : List Bool} {r : Rule} (h : ∀ c ∈ r.Conj, ∀ s ∈ c.Seq, 0 ≤ s.Name → rd A s.Name = rd B s.Name) : holdsR A r = holdsR B r := by
  have he : ∀ c ∈ r.Conj, emptyC A c = emptyC B c := fun c hc => by
    unfold emptyC
    rw [Bool.eq_iff_iff, List.all_eq_true, List.all_eq_true]
    refine forall_congr' fun s => forall_congr' fun hs => ?_
    unfold symE
    by_cases c0 : 0 ≤ s.Name
    · rw [h c hc s hs c0]
    · rw [decide_eq_false c0, Bool.false_and, Bool.false_and]
  unfold holdsR
  rw [Bool.eq_iff_iff, List.all_eq_true, List.all_eq_true]
  refine forall_congr' fun c => forall_congr' fun hc => ?_
  rw [he c hc]
def newR (n : Nat) (k : Int) : Rule := (⟨(n : Int), ([(⟨true, ([(⟨k, (0 : Int), (0 : Int)⟩ : Symbol)] : List Symbol)⟩ : Conjunct)] : List Conjunct)⟩ : Rule)
theorem new_holds (M : List Bool) (n : Nat) (k : Int) (hk : 0 ≤ k) : holdsR M (newR n k) = !rd M k := by
  simp [holdsR, newR, emptyC, symE, hk]
theorem over_pm {g : Grammar} {xs : List Int} {has : List Bool} (hm : mayP g) (hx : Lev g.Names.length (edgesOf g) xs) (hp : PM g.Names.length g.Rules (rd xs) has) (k : Int) (hk0 : 0 ≤ k) (hk1 : k < (g.Names.length : Int)) (v : Int) (hv : v = rd xs k + 1) :
    PM (g.Names.length + 1) (g.Rules ++ [newR g.Names.length k]) (rd (xs ++ [v])) (has ++ [!rd has k]) := by
  have hl := lv_ok hm hx
  have hlen := hp.len
  have hxl := hx.1.1
  have r1 : ∀ y : Int, 0 ≤ y → y < (g.Names.length : Int) → rd (has ++ [!rd has k]) y = rd has y := fun y a b => rd_app_l a (by omega)
  have r2 : ∀ y : Int, 0 ≤ y → y < (g.Names.length : Int) → rd (xs ++ [v]) y = rd xs y := fun y a b => rd_app_l a (by omega)
  have r3 : rd (has ++ [!rd has k]) (g.Names.length : Int) = !rd has k := by rw [show (g.Names.length : Int) = (has.length : Int) by rw [hlen]]; exact rd_app_n
  have r4 : rd (xs ++ [v]) (g.Names.length : Int) = v := by rw [show (g.Names.length : Int) = (xs.length : Int) by rw [hxl]]; exact rd_app_n
  have r5 : ∀ r ∈ g.Rules, holdsR (has ++ [!rd has k]) r = holdsR has r := fun r hr => holds_eq fun c hc s hs h0 => r1 _ h0 ((hl r hr).2 c hc s hs h0).1
  have hcase : ∀ y : Int, y < ((g.Names.length + 1 : Nat) : Int) → y < (g.Names.length : Int) ∨ y = (g.Names.length : Int) := fun y h => by omega
  refine ⟨by simp [hlen], fun r hr hh => ?_, fun y a b hy => ?_, fun t M hM hcl y a b ht hy => ?_⟩
  · rcases List.mem_append.1 hr with hr | hr
    · rw [r5 r hr] at hh
      obtain ⟨⟨a, b⟩, _⟩ := hl r hr
      rw [r1 _ a b]; exact hp.cl r hr hh
    · rw [List.mem_singleton] at hr; subst hr
      rw [new_holds _ _ _ hk0, r1 k hk0 hk1] at hh
      show S.rd _ (g.Names.length : Int) = true
      rw [r3]; exact hh
  · rcases hcase y b with b | rfl
    · rw [r1 y a b] at hy
      obtain ⟨r, hr, e, hh⟩ := hp.su y a b hy
      exact ⟨r, List.mem_append_left _ hr, e, by rw [r5 r hr]; exact hh⟩
    · rw [r3] at hy
      exact ⟨_, List.mem_append_right _ (.head _), rfl, by rw [new_holds _ _ _ hk0, r1 k hk0 hk1]; exact hy⟩
  · rcases hcase y b with b | rfl
    · rw [r1 y a b] at hy
      rw [r2 y a b] at ht
      refine hp.mi t M (fun z c d hz => ?_) (fun r hr hrt hh => ?_) y a b ht hy
      · rw [hM z c (by omega) (by rw [r2 z c d]; exact hz), r1 z c d]
      · obtain ⟨⟨c, d⟩, _⟩ := hl r hr
        exact hcl r (List.mem_append_left _ hr) (by rw [r2 _ c d]; exact hrt) hh
    · rw [r3] at hy
      rw [r4] at ht
      refine hcl (newR g.Names.length k) (List.mem_append_right _ (.head _)) (by show S.rd _ (g.Names.length : Int) = t; rw [r4]; exact ht) ?_
      rw [new_holds _ _ _ hk0, hM k hk0 (by omega) (by rw [r2 k hk0 hk1]; omega), r1 k hk0 hk1]
      exact hy
def Km (g : Grammar) (name : Int) : Int := IntKind.wrap .i64 (Int.tmod (IntKind.wrap .u64 name) (IntKind.wrap .u64 (g.Names.length : Int)))
theorem Negs_eq (K : Nat) (g : Grammar) (name : Int) : templelaw9_EmptysNegs K g name = (templelaw9_awake K).bind fun r_3 => if (!r_3) = true then some false else (nulls_Nulls K g).bind fun r_6 => (templelaw0_Num K r_6.2).bind fun r_9 => if r_9 ≠ 0 then some (decide ((r_6.1.length : Int) = 0)) else if (g.Names.length : Int) = 0 then some (decide ((r_6.1.length : Int) = 0)) else if IntKind.wrap .u64 (g.Names.length : Int) ≠ 0 then (templelaw0_CopyGrammar K g).bind fun r_14 => if (r_14.Names.length + ([(⟨#[110, 48, 116]⟩ : ByteArray)] : List ByteArray).length) * 16 ≤ 140737488355328 then if (r_14.Rules.length + ([(⟨(g.Names.length : Int), ([(⟨true, ([(⟨Km g name, (0 : Int), (0 : Int)⟩ : Symbol)] : List Symbol)⟩ : Conjunct)] : List Conjunct)⟩ : Rule)] : List Rule).length) * 32 ≤ 140737488355328 then (nulls_Nulls K (⟨r_14.Start, r_14.Names ++ ([(⟨#[110, 48, 116]⟩ : ByteArray)] : List ByteArray), r_14.Rules ++ ([(⟨(g.Names.length : Int), ([(⟨true, ([(⟨Km g name, (0 : Int), (0 : Int)⟩ : Symbol)] : List Symbol)⟩ : Conjunct)] : List Conjunct)⟩ : Rule)] : List Rule)⟩ : Grammar)).bind fun r_23 => (templelaw0_Num K r_23.2).bind fun r_26 => if r_26 ≠ 0 then (templeref1_May K (⟨r_14.Start, r_14.Names ++ ([(⟨#[110, 48, 116]⟩ : ByteArray)] : List ByteArray), r_14.Rules ++ ([(⟨(g.Names.length : Int), ([(⟨true, ([(⟨Km g name, (0 : Int), (0 : Int)⟩ : Symbol)] : List Symbol)⟩ : Conjunct)] : List Conjunct)⟩ : Rule)] : List Rule)⟩ : Grammar)).bind fun r_29 => some (!r_29) else if (r_6.1.length : Int) = (g.Names.length : Int) then if (r_23.1.length : Int) = (IntKind.wrap .i64 ((r_6.1.length : Int) + 1)) then if (r_6.1.length : Int) ≤ (r_23.1.length : Int) then (templelaw0_SameBools K (sl r_23.1 0 (r_6.1.length : Int)) r_6.1).bind fun r_34 => if r_34 = true then if (r_6.1.length : Int) < (r_23.1.length : Int) then if 0 ≤ Km g name then if Km g name < (r_6.1.length : Int) then some (decide ((rd r_23.1 (r_6.1.length : Int)) = (!(rd r_6.1 (Km g name))))) else none else none else none else some false else none else some false else some false else none else none else none := rfl
theorem EmptysNegs_true (K : Nat) (hK : KW ≤ K) (g : Grammar) (hg : SzG g) (name : Int) : templelaw9_EmptysNegs K g name = some true := by
  have hK' : 140737488355328 ≤ K := hK
  obtain ⟨r, h1, h2⟩ := Nulls_spec K (by omega) g
  rw [Negs_eq, awake9 K (by omega), Option.bind_some, if_neg (by decide), h1, Option.bind_some]
  rcases h2 with ⟨s, _, _, rfl⟩ | ⟨hm, xs, has, ho, hx, hp, rfl⟩
  · rfl
  have hlen := hp.len
  have hxl := hx.1.1
  have hn := hm.1.2.1
  have hn1 : 1 ≤ g.Names.length := hm.1.1
  have hr256 := hm.2.2.2.2.1
  have hno := (ho.ok rfl).2.1
  obtain ⟨k0, k1⟩ := idx name g.Names.length hn1 (by omega)
  have k0' : 0 ≤ Km g name := k0
  have k1' : Km g name < (g.Names.length : Int) := k1
  obtain ⟨r', h4, h5⟩ := Nulls_spec K (by omega) (over g (Km g name) true)
  have h4' : nulls_Nulls K (⟨g.Start, g.Names ++ ([(⟨#[110, 48, 116]⟩ : ByteArray)] : List ByteArray), g.Rules ++ ([(⟨(g.Names.length : Int), ([(⟨true, ([(⟨Km g name, (0 : Int), (0 : Int)⟩ : Symbol)] : List Symbol)⟩ : Conjunct)] : List Conjunct)⟩ : Rule)] : List Rule)⟩ : Grammar) = some r' := h4
  obtain ⟨b, hb, hb2⟩ := rMay_spec K (by omega) (over g (Km g name) true)
  have hb' : templeref1_May K (⟨g.Start, g.Names ++ ([(⟨#[110, 48, 116]⟩ : ByteArray)] : List ByteArray), g.Rules ++ ([(⟨(g.Names.length : Int), ([(⟨true, ([(⟨Km g name, (0 : Int), (0 : Int)⟩ : Symbol)] : List Symbol)⟩ : Conjunct)] : List Conjunct)⟩ : Rule)] : List Rule)⟩ : Grammar) = some b := hb
  simp only [templelaw0_Num, Option.bind_some]
  rw [if_neg (fun h => h rfl), if_neg (by omega), if_pos (by rw [wu (by omega) (by omega)]; omega), Copy_spec K hK g hg, Option.bind_some, if_pos (by simp only [List.length_cons, List.length_nil]; omega), if_pos (by simp only [List.length_cons, List.length_nil]; omega), h4', Option.bind_some, hb', Option.bind_some]
  generalize hkk : Km g name = k at *
  by_cases hm' : mayP (over g k true)
  · have so := over_out hm hno hx k true k0' k1' hm'
    have hv : rd xs k + ng ⟨(g.Names.length : Int), k, true⟩ = rd xs k + 1 := rfl
    have hlev : Lev (over g k true).Names.length (edgesOf (over g k true)) (xs ++ [rd xs k + ng ⟨(g.Names.length : Int), k, true⟩]) := by
      obtain ⟨_, _, ys, hy, e⟩ := so.ok rfl
      cases e; exact hy
    have hpm := over_pm hm hx hp k k0' k1' _ hv
    have hol : (over g k true).Names.length = g.Names.length + 1 := by simp [over]
    have := h5.uniq (.inr ⟨hm', _, has ++ [!rd has k], so, hlev, (by rw [hol]; exact hpm), rfl⟩)
    subst this
    have hsl : sl (has ++ [!rd has k]) 0 (has.length : Int) = has := by simp [sl]
    simp only
    rw [if_neg (fun h => h rfl), if_pos (by omega), if_pos (by rw [wr (by omega) (by omega)]; simp), if_pos (by simp; omega), hsl, SameBools_spec K _ _ (by omega) (by omega), decide_eq_true rfl, Option.bind_some, if_pos rfl, if_pos (by simp; omega), if_pos k0', if_pos (by omega), rd_app_n, decide_eq_true rfl]
  · have : r' = ([], 900) := by
      obtain ⟨s, hs, hs2⟩ := Strata_spec K (by omega) (over g k true)
      have : s = ([], [], 800) := hs2.uniq (.inl ⟨hm', rfl⟩)
      subst this
      exact h5.uniq (.inl ⟨_, hs2, show (800 : Int) ≠ 0 by decide, rfl⟩)
    subst this
    have : b = false := by cases b with | false => rfl | true => exact absurd (hb2.1 rfl) hm'
    subst this
    rfl
theorem EmptysNegs_holds (g : Grammar) (name : Int) (w : wfGrammar g) (_ : wfI .i64 name) : ∃ K, templelaw9_EmptysNegs K g name = some true := ⟨KW, EmptysNegs_true KW (Nat.le_refl _) g (SzG_wf w) name⟩
end Go.Proofs.Ytflbjhfklhidjaa
