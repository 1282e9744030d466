/-
  Merged: PTabA PTabB PTabC PTabD PTabE PTabF PTabG. Own work; no claim stands here.
-/
import Derived.Test.YtflbjhfklhidjaaPAw9
/-! PTabA -/
namespace Go.Proofs.Ytflbjhfklhidjaa
open S Go.Sort
set_option linter.unusedVariables false
set_option linter.unusedSimpArgs false
set_option linter.unusedSectionVars false
set_option maxRecDepth 100000

/-! ## Numbers of places -/
def offC : Int → List Conjunct → List Int
  | _, [] => []
  | q, c :: cs => q :: offC (q + (c.Seq.length : Int) + 1) cs
def endC : Int → List Conjunct → Int
  | q, [] => q
  | q, c :: cs => endC (q + (c.Seq.length : Int) + 1) cs
def offR : Int → List Rule → List (List Int)
  | _, [] => []
  | q, r :: rs => offC q r.Conj :: offR (endC q r.Conj) rs
def endR : Int → List Rule → Int
  | q, [] => q
  | q, r :: rs => endR (endC q r.Conj) rs
theorem rd_zero {T : Type} [Inhabited T] {x : T} {xs : List T} : rd (x :: xs) ((0 : Nat) : Int) = x := rfl
theorem rd_succ {T : Type} [Inhabited T] {x : T} {xs : List T} {i : Nat} : rd (x :: xs) ((i + 1 : Nat) : Int) = rd xs (i : Int) := rfl
theorem offC_len : ∀ (cs : List Conjunct) (q : Int), (offC q cs).length = cs.length
  | [], _ => rfl
  | c :: cs, q => by rw [offC, List.length_cons, List.length_cons, offC_len cs]
theorem offR_len : ∀ (rs : List Rule) (q : Int), (offR q rs).length = rs.length
  | [], _ => rfl
  | r :: rs, q => by rw [offR, List.length_cons, List.length_cons, offR_len rs]
theorem endC_ge : ∀ (cs : List Conjunct) (q : Int), q ≤ endC q cs
  | [], _ => Int.le_refl _
  | c :: cs, q => by have := endC_ge cs (q + (c.Seq.length : Int) + 1); rw [endC]; omega
theorem endR_ge : ∀ (rs : List Rule) (q : Int), q ≤ endR q rs
  | [], _ => Int.le_refl _
  | r :: rs, q => by have := endR_ge rs (endC q r.Conj); have := endC_ge r.Conj q; rw [endR]; omega
theorem endC_le : ∀ (cs : List Conjunct) (q : Int), (∀ c ∈ cs, c.Seq.length ≤ 64) → endC q cs ≤ q + 65 * (cs.length : Int)
  | [], q, _ => by simp [endC]
  | c :: cs, q, h => by
    have h1 := h c (.head _)
    have := endC_le cs (q + (c.Seq.length : Int) + 1) fun x hx => h x (.tail _ hx)
    rw [endC, List.length_cons]; push_cast; omega
theorem endR_le : ∀ (rs : List Rule) (q : Int), (∀ r ∈ rs, RuleBd r) → endR q rs ≤ q + 520 * (rs.length : Int)
  | [], q, _ => by simp [endR]
  | r :: rs, q, h => by
    have h1 := h r (.head _)
    have h2 := endC_le r.Conj q h1.2
    have h3 := h1.1
    have := endR_le rs (endC q r.Conj) fun x hx => h x (.tail _ hx)
    rw [endR, List.length_cons]; push_cast; omega
theorem offC_in : ∀ (cs : List Conjunct) (q : Int) (c : Nat), c < cs.length → q ≤ rd (offC q cs) (c : Int) ∧ rd (offC q cs) (c : Int) + ((rd cs (c : Int)).Seq.length : Int) + 1 ≤ endC q cs
  | [], _, _, h => by simp at h
  | x :: cs, q, 0, _ => by
    have := endC_ge cs (q + (x.Seq.length : Int) + 1)
    rw [offC, rd_zero, rd_zero, endC]; omega
  | x :: cs, q, c + 1, h => by
    have := offC_in cs (q + (x.Seq.length : Int) + 1) c (by simpa using h)
    rw [offC, rd_succ, rd_succ, endC]; omega
theorem offC_lt : ∀ (cs : List Conjunct) (q : Int) (c c' : Nat), c < c' → c' < cs.length → rd (offC q cs) (c : Int) + ((rd cs (c : Int)).Seq.length : Int) + 1 ≤ rd (offC q cs) (c' : Int)
  | [], _, _, _, _, h => by simp at h
  | x :: cs, q, c, 0, h, _ => by omega
  | x :: cs, q, 0, c' + 1, _, h => by
    have := offC_in cs (q + (x.Seq.length : Int) + 1) c' (by simpa using h)
    rw [offC, rd_zero, rd_zero, rd_succ]; omega
  | x :: cs, q, c + 1, c' + 1, h1, h => by
    have := offC_lt cs (q + (x.Seq.length : Int) + 1) c c' (by omega) (by simpa using h)
    rw [offC, rd_succ, rd_succ, rd_succ]; omega
theorem offR_in : ∀ (rs : List Rule) (q : Int) (r c : Nat), r < rs.length → c < (rd rs (r : Int)).Conj.length → q ≤ rd (rd (offR q rs) (r : Int)) (c : Int) ∧ rd (rd (offR q rs) (r : Int)) (c : Int) + ((rd (rd rs (r : Int)).Conj (c : Int)).Seq.length : Int) + 1 ≤ endR q rs
  | [], _, _, _, h, _ => by simp at h
  | x :: rs, q, 0, c, _, hc => by
    rw [rd_zero] at hc
    have h1 := offC_in x.Conj q c hc
    have := endR_ge rs (endC q x.Conj)
    rw [offR, rd_zero, rd_zero, endR]; omega
  | x :: rs, q, r + 1, c, h, hc => by
    rw [rd_succ] at hc
    have h1 := offR_in rs (endC q x.Conj) r c (by simpa using h) hc
    have := endC_ge x.Conj q
    rw [offR, rd_succ, rd_succ, endR]; omega
theorem offR_lt : ∀ (rs : List Rule) (q : Int) (r r' c c' : Nat), r < r' → r' < rs.length → c < (rd rs (r : Int)).Conj.length → c' < (rd rs (r' : Int)).Conj.length → rd (rd (offR q rs) (r : Int)) (c : Int) + ((rd (rd rs (r : Int)).Conj (c : Int)).Seq.length : Int) + 1 ≤ rd (rd (offR q rs) (r' : Int)) (c' : Int)
  | [], _, _, _, _, _, _, h, _, _ => by simp at h
  | x :: rs, q, r, 0, _, _, h, _, _, _ => by omega
  | x :: rs, q, 0, r' + 1, c, c', _, h, hc, hc' => by
    rw [rd_zero] at hc
    rw [rd_succ] at hc'
    have h1 := offC_in x.Conj q c hc
    have h2 := offR_in rs (endC q x.Conj) r' c' (by simpa using h) hc'
    rw [offR, rd_zero, rd_zero, rd_succ]; omega
  | x :: rs, q, r + 1, r' + 1, c, c', h1, h, hc, hc' => by
    rw [rd_succ] at hc hc'
    have := offR_lt rs (endC q x.Conj) r r' c c' (by omega) (by simpa using h) hc hc'
    rw [offR, rd_succ, rd_succ, rd_succ]; exact this
theorem offR_row : ∀ (rs : List Rule) (q : Int) (r : Nat), r < rs.length → ∃ p, rd (offR q rs) (r : Int) = offC p (rd rs (r : Int)).Conj
  | [], _, _, h => by simp at h
  | x :: rs, q, 0, _ => ⟨q, rfl⟩
  | x :: rs, q, r + 1, h => by
    obtain ⟨p, hp⟩ := offR_row rs (endC q x.Conj) r (by simpa using h)
    exact ⟨p, by rw [offR, rd_succ, rd_succ, hp]⟩
def cjs (g : Grammar) : List (List Int) := offR 0 g.Rules
def off (g : Grammar) (r c : Nat) : Int := rd (rd (cjs g) (r : Int)) (c : Int)
/-- There is such a place. -/
def Pl (g : Grammar) (r c k : Nat) : Prop := r < g.Rules.length ∧ c < (rd g.Rules (r : Int)).Conj.length ∧ k ≤ (rd (rd g.Rules (r : Int)).Conj (c : Int)).Seq.length
def total_ (g : Grammar) : Int := endR 0 g.Rules
theorem off_in {g : Grammar} {r c k : Nat} (h : Pl g r c k) : 0 ≤ off g r c ∧ off g r c + (k : Int) < total_ g := by
  have := offR_in g.Rules 0 r c h.1 h.2.1
  have := h.2.2
  unfold off cjs total_; omega
theorem off_inj {g : Grammar} {r c k r' c' k' : Nat} (h : Pl g r c k) (h' : Pl g r' c' k') (e : off g r c + (k : Int) = off g r' c' + (k' : Int)) : r = r' ∧ c = c' ∧ k = k' := by
  have a1 := h.2.2
  have a2 := h'.2.2
  rcases Nat.lt_trichotomy r r' with hr | rfl | hr
  · have := offR_lt g.Rules 0 r r' c c' hr h'.1 h.2.1 h'.2.1
    unfold off cjs at e; omega
  · obtain ⟨p, hp⟩ := offR_row g.Rules 0 r h.1
    rcases Nat.lt_trichotomy c c' with hc | rfl | hc
    · have := offC_lt (rd g.Rules (r : Int)).Conj p c c' hc h'.2.1
      unfold off cjs at e; rw [hp] at e; omega
    · exact ⟨rfl, rfl, by omega⟩
    · have := offC_lt (rd g.Rules (r : Int)).Conj p c' c hc h.2.1
      unfold off cjs at e; rw [hp] at e; omega
  · have := offR_lt g.Rules 0 r' r c' c hr h.1 h'.2.1 h.2.1
    unfold off cjs at e; omega
theorem cjs_len (g : Grammar) : (cjs g).length = g.Rules.length := offR_len _ _
theorem cjs_row {g : Grammar} {r : Nat} (h : r < g.Rules.length) : (rd (cjs g) (r : Int)).length = (rd g.Rules (r : Int)).Conj.length := by
  obtain ⟨p, hp⟩ := offR_row g.Rules 0 r h
  unfold cjs
  rw [hp, offC_len]
theorem total_le {g : Grammar} (hb : Bd g) : 0 ≤ total_ g ∧ total_ g ≤ 133120 := by
  have h1 := endR_le g.Rules 0 hb.2
  have h2 := endR_ge g.Rules 0
  have h3 := hb.1
  unfold total_; omega

/-! ## What is read of a table -/
def tb (g : Grammar) (ns rs : List Int) : Templeref6_Table := ⟨g, ⟨#[]⟩, 1, ns, cjs g, rs⟩
section
variable {K : Nat} {g : Grammar} {ns rs : List Int}
theorem t_span : templeref6_Table_span K (tb g ns rs) 0 0 = some 0 := by
  unfold templeref6_Table_span
  rw [if_neg (by decide), if_neg (by decide), if_neg (by show ¬ ((0 : Int) < 0); decide)]
  rfl
theorem place_eq (r c k : Int) : templeref6_Table_place K (tb g ns rs) ⟨r, c, k⟩ = if r < 0 then some (-1) else if (g.Rules.length : Int) ≤ r then some (-1) else if c < 0 then some (-1) else if r < (g.Rules.length : Int) then if (((rd g.Rules r).Conj).length : Int) ≤ c then some (-1) else if k < 0 then some (-1) else if c < (((rd g.Rules r).Conj).length : Int) then if (((rd ((rd g.Rules r).Conj) c).Seq).length : Int) < k then some (-1) else if r < ((cjs g).length : Int) then if c < ((rd (cjs g) r).length : Int) then some (IntKind.wrap .i64 ((rd (rd (cjs g) r) c) + k)) else none else none else none else none := rfl
theorem symbol_eq (r c k : Int) : templeref6_Table_Symbol K (tb g ns rs) ⟨r, c, k⟩ = if 0 ≤ r then if r < (g.Rules.length : Int) then if 0 ≤ c then if c < (((rd g.Rules r).Conj).length : Int) then if k = (((rd ((rd g.Rules r).Conj) c).Seq).length : Int) then some ((⟨(0 : Int), (0 : Int), (0 : Int)⟩ : Symbol), false) else if 0 ≤ k then if k < (((rd ((rd g.Rules r).Conj) c).Seq).length : Int) then some (rd ((rd ((rd g.Rules r).Conj) c).Seq) k, true) else none else none else none else none else none else none := rfl
theorem t_place (hb : Bd g) {r c k : Nat} (h : Pl g r c k) : templeref6_Table_place K (tb g ns rs) ⟨(r : Int), (c : Int), (k : Int)⟩ = some (off g r c + (k : Int)) := by
  have h1 := h.1
  have h2 := h.2.1
  have h3 := h.2.2
  have h4 := cjs_len g
  have h5 := cjs_row h1
  have h6 := off_in h
  have h7 := total_le hb
  rw [place_eq, if_neg (by omega), if_neg (by omega), if_neg (by omega), if_pos (by omega), if_neg (by omega), if_neg (by omega), if_pos (by omega), if_neg (by omega), if_pos (by omega), if_pos (by omega)]
  show some (IntKind.wrap .i64 (off g r c + (k : Int))) = _
  rw [wr (by omega) (by omega)]
theorem t_rest (hb : Bd g) (hl : (rs.length : Int) = total_ g) {r c k : Nat} (h : Pl g r c k) : templeref6_Table_Rest K (tb g ns rs) ⟨(r : Int), (c : Int), (k : Int)⟩ 0 0 = some (decide (0 < rd rs (off g r c + (k : Int)))) := by
  have h6 := off_in h
  have h7 := total_le hb
  unfold templeref6_Table_Rest templeref6_Table_RestRank
  rw [t_span, Option.bind_some, t_place hb h, Option.bind_some, if_neg (by decide), if_neg (by omega)]
  have e : IntKind.wrap .i64 (IntKind.wrap .i64 ((off g r c + (k : Int)) * (tb g ns rs).wide) + 0) = off g r c + (k : Int) := by
    show IntKind.wrap .i64 (IntKind.wrap .i64 ((off g r c + (k : Int)) * 1) + 0) = _
    rw [Int.mul_one, wr (a := off g r c + (k : Int)) (by omega) (by omega), Int.add_zero, wr (by omega) (by omega)]
  rw [e, if_pos (by omega), if_pos (by show _ < (rs.length : Int); omega)]
  rfl
theorem t_has {x : Int} (hn : g.Names.length ≤ 64) (hl : ns.length = g.Names.length) (h0 : 0 ≤ x) (h1 : x < g.Names.length) : templeref6_Table_Has K (tb g ns rs) x 0 0 = some (decide (0 < rd ns x)) := by
  unfold templeref6_Table_Has templeref6_Table_Rank
  have e : IntKind.wrap .i64 (IntKind.wrap .i64 (x * (tb g ns rs).wide) + 0) = x := by
    show IntKind.wrap .i64 (IntKind.wrap .i64 (x * 1) + 0) = _
    rw [Int.mul_one, wr (a := x) (by omega) (by omega), Int.add_zero, wr (by omega) (by omega)]
  rw [t_span, Option.bind_some, if_neg (by decide), if_neg (by omega), if_neg (by show ¬ ((g.Names.length : Int) ≤ x); omega), e, if_pos h0, if_pos (by show x < (ns.length : Int); omega)]
  rfl
/-- What a rest needs: of the rest behind it. -/
def nextB (g : Grammar) (ns rs : List Int) (r c k : Nat) : Bool :=
  if k = (rd (rd g.Rules (r : Int)).Conj (c : Int)).Seq.length then true
  else decide (0 ≤ (rd (rd (rd g.Rules (r : Int)).Conj (c : Int)).Seq (k : Int)).Name) && (decide (0 < rd ns (rd (rd (rd g.Rules (r : Int)).Conj (c : Int)).Seq (k : Int)).Name) && decide (0 < rd rs (off g r c + (k : Int) + 1)))
theorem t_symbol {r c k : Nat} (h : Pl g r c k) : templeref6_Table_Symbol K (tb g ns rs) ⟨(r : Int), (c : Int), (k : Int)⟩ = some (if k = (rd (rd g.Rules (r : Int)).Conj (c : Int)).Seq.length then (⟨0, 0, 0⟩, false) else (rd (rd (rd g.Rules (r : Int)).Conj (c : Int)).Seq (k : Int), true)) := by
  have h1 := h.1
  have h2 := h.2.1
  have h3 := h.2.2
  rw [symbol_eq, if_pos (by omega), if_pos (by omega), if_pos (by omega), if_pos (by omega)]
  by_cases e : k = (rd (rd g.Rules (r : Int)).Conj (c : Int)).Seq.length
  · rw [if_pos (by omega), if_pos e]
  · rw [if_neg (by omega), if_neg e, if_pos (by omega), if_pos (by omega)]
theorem t_next (hK : 1000 ≤ K) (hb : Bd g) (hn : g.Names.length ≤ 64) (hl : ns.length = g.Names.length) (hr : (rs.length : Int) = total_ g) (hs : ∀ q ∈ g.Rules, ∀ d ∈ q.Conj, ∀ s ∈ d.Seq, 0 ≤ s.Name → s.Name < g.Names.length) {r c k : Nat} (h : Pl g r c k) :
    templeref6_Table_rest K (tb g ns rs) ⟨(r : Int), (c : Int), (k : Int)⟩ 0 0 = some (nextB g ns rs r c k) := by
  have h1 := h.1
  have h2 := h.2.1
  have h3 := h.2.2
  unfold templeref6_Table_rest nextB
  rw [t_symbol h, Option.bind_some]
  by_cases e : k = (rd (rd g.Rules (r : Int)).Conj (c : Int)).Seq.length
  · rw [if_pos e, if_pos e]; rfl
  · rw [if_neg e, if_neg e]
    have h64 := (hb.2 _ (rd_mem (xs := g.Rules) (i := (r : Int)) (by omega) (by omega))).2 _ (rd_mem (xs := (rd g.Rules (r : Int)).Conj) (i := (c : Int)) (by omega) (by omega))
    have hm := hs _ (rd_mem (xs := g.Rules) (i := (r : Int)) (by omega) (by omega)) _ (rd_mem (xs := (rd g.Rules (r : Int)).Conj) (i := (c : Int)) (by omega) (by omega)) _ (rd_mem (xs := (rd (rd g.Rules (r : Int)).Conj (c : Int)).Seq) (i := (k : Int)) (by omega) (by omega))
    have hp : Pl g r c (k + 1) := ⟨h1, h2, by omega⟩
    have hrest := t_rest (K := K) (ns := ns) hb hr hp
    generalize rd (rd (rd g.Rules (r : Int)).Conj (c : Int)).Seq (k : Int) = x at hm ⊢
    simp only
    rw [if_neg (by decide)]
    by_cases c0 : x.Name < 0
    · rw [if_pos c0, decide_eq_false (by omega), Bool.false_and]
      unfold templeref6_Table_Byte
      rw [if_neg (by decide)]
      rfl
    · have hx := hm (by omega)
      obtain ⟨K', rfl⟩ : ∃ q, K = q + 2 := ⟨K - 2, by omega⟩
      have hh := t_has (K := K' + 2) (g := g) (ns := ns) (rs := rs) hn hl (show 0 ≤ x.Name by omega) hx
      have e2 : (⟨(r : Int), (c : Int), IntKind.wrap .i64 ((k : Int) + 1)⟩ : Place) = ⟨(r : Int), (c : Int), ((k + 1 : Nat) : Int)⟩ := by rw [wr (by omega) (by omega)]; rfl
      have e3 : off g r c + ((k + 1 : Nat) : Int) = off g r c + (k : Int) + 1 := by omega
      rw [e3] at hrest
      rw [if_neg c0, decide_eq_true (show 0 ≤ x.Name by omega), Bool.true_and]
      simp only [templeref6_Table_rest.l0]
      rw [if_pos (by decide), hh, Option.bind_some]
      by_cases c1 : 0 < rd ns x.Name
      · rw [decide_eq_true c1, if_pos rfl, Bool.true_and]
        simp only [templeref6_On, Option.bind_some]
        rw [e2, hrest, Option.bind_some]
        by_cases c2 : 0 < rd rs (off g r c + (k : Int) + 1)
        · rw [decide_eq_true c2, if_pos rfl]; rfl
        · rw [decide_eq_false c2, if_neg (by decide), if_neg (by decide)]; rfl
      · rw [decide_eq_false c1, if_neg (by decide), if_neg (by decide), Bool.false_and]; rfl
end
end Go.Proofs.Ytflbjhfklhidjaa

/-! PTabB -/
namespace Go.Proofs.Ytflbjhfklhidjaa
open S Go.Sort
set_option linter.unusedVariables false
set_option linter.unusedSimpArgs false
set_option linter.unusedSectionVars false
set_option maxRecDepth 100000

/-- How many are not there yet. -/
def pz : List Int → Nat
  | [] => 0
  | v :: xs => (if 0 < v then 0 else 1) + pz xs
theorem pz_set : ∀ (xs : List Int) (i : Nat), i < xs.length → ¬ 0 < xs.getD i default → pz (xs.set i 1) < pz xs
  | [], i, h, _ => by simp at h
  | x :: xs, 0, _, h1 => by
    have : ¬ 0 < x := h1
    simp only [List.set_cons_zero, pz]
    rw [if_pos (by decide), if_neg this]; omega
  | x :: xs, i + 1, h, h1 => by
    have := pz_set xs i (by simpa using h) (by simpa using h1)
    simp only [List.set_cons_succ, pz]; omega
theorem pz_le : ∀ xs : List Int, pz xs ≤ xs.length
  | [] => Nat.le_refl _
  | x :: xs => by have := pz_le xs; rw [pz, List.length_cons]; split <;> omega
def seqA (g : Grammar) (r c : Nat) : List Symbol := (rd (rd g.Rules (r : Int)).Conj (c : Int)).Seq
/-- All that is left are names that are there. -/
def Suf (g : Grammar) (ns : List Int) (r c k : Nat) : Prop := ∀ j : Nat, k ≤ j → j < (seqA g r c).length → 0 ≤ (rd (seqA g r c) (j : Int)).Name ∧ 0 < rd ns (rd (seqA g r c) (j : Int)).Name
def SX (g : Grammar) (ns xs : List Int) : Prop := ∀ r c k, Pl g r c k → 0 < rd xs (off g r c + (k : Int)) → Suf g ns r c k
def RX (g : Grammar) (ns xs : List Int) (r : Nat) : Prop := ∀ c k, Pl g r c k → Suf g ns r c k → 0 < rd xs (off g r c + (k : Int))
def Ext (xs ys : List Int) : Prop := ys.length = xs.length ∧ ∀ i : Int, 0 ≤ i → i < xs.length → 0 < rd xs i → 0 < rd ys i
theorem Ext.refl (xs : List Int) : Ext xs xs := ⟨rfl, fun _ _ _ h => h⟩
theorem Ext.trans {xs ys zs : List Int} (h1 : Ext xs ys) (h2 : Ext ys zs) : Ext xs zs := ⟨h2.1.trans h1.1, fun i a b h => h2.2 i a (by rw [h1.1]; exact b) (h1.2 i a b h)⟩
theorem Ext.set {xs : List Int} {i : Int} (h0 : 0 ≤ i) (h1 : i < xs.length) : Ext xs (xs.set i.toNat 1) := ⟨by simp, fun j a b h => by rw [rdi_set _ h0 h1 a]; split <;> omega⟩
theorem suf_next {g : Grammar} {ns xs : List Int} (hx : SX g ns xs) {r c k : Nat} (h : Pl g r c k) (hn : nextB g ns xs r c k = true) : Suf g ns r c k := by
  unfold nextB at hn
  intro j hj hjl
  split at hn
  · rename_i e
    have : (seqA g r c).length = (rd (rd g.Rules (r : Int)).Conj (c : Int)).Seq.length := rfl
    omega
  · rename_i e
    rw [Bool.and_eq_true, Bool.and_eq_true, decide_eq_true_eq, decide_eq_true_eq, decide_eq_true_eq] at hn
    rcases Nat.eq_or_lt_of_le hj with rfl | hj
    · exact ⟨hn.1, hn.2.1⟩
    · have hp : Pl g r c (k + 1) := ⟨h.1, h.2.1, by have := h.2.2; omega⟩
      exact hx r c (k + 1) hp (by have e3 : off g r c + ((k + 1 : Nat) : Int) = off g r c + (k : Int) + 1 := by omega
                                  rw [e3]; exact hn.2.2) j hj hjl
theorem next_suf {g : Grammar} {ns xs : List Int} {r c k : Nat} (h : Pl g r c k) (hs : Suf g ns r c k) (hk : k + 1 ≤ (seqA g r c).length → 0 < rd xs (off g r c + ((k + 1 : Nat) : Int))) : nextB g ns xs r c k = true := by
  unfold nextB
  split
  · rfl
  · rename_i e
    have hlt : k < (seqA g r c).length := by
      have h3 := h.2.2
      show k < (rd (rd g.Rules (r : Int)).Conj (c : Int)).Seq.length
      omega
    obtain ⟨h1, h2⟩ := hs k (Nat.le_refl _) hlt
    have e3 : off g r c + ((k + 1 : Nat) : Int) = off g r c + (k : Int) + 1 := by omega
    have h3 := hk hlt
    rw [e3] at h3
    rw [Bool.and_eq_true, Bool.and_eq_true, decide_eq_true_eq, decide_eq_true_eq, decide_eq_true_eq]
    exact ⟨h1, h2, h3⟩

section
variable {K : Nat} {g : Grammar} {ns : List Int} (hK : 200000 ≤ K) (hb : Bd g) (hn : g.Names.length ≤ 64) (hl : ns.length = g.Names.length) (hs : ∀ q ∈ g.Rules, ∀ d ∈ q.Conj, ∀ s ∈ d.Seq, 0 ≤ s.Name → s.Name < g.Names.length)
/-- One place. -/
def stp (g : Grammar) (ns : List Int) (r c k : Nat) (s : List Int × Bool) : List Int × Bool := if 0 < rd s.1 (off g r c + (k : Int)) then s else if nextB g ns s.1 r c k = true then (s.1.set (off g r c + (k : Int)).toNat 1, true) else s
include hK hb hn hl hs
theorem fr_l3 (rs0 xs : List Int) (ch : Bool) (hr : (xs.length : Int) = total_ g) {r c k : Nat} (h : Pl g r c k) : templeref6_Table_fillRule.l3 K (tb g ns rs0) (r : Int) (c : Int) (k : Int) 0 K (xs, ch, 0) = some ((stp g ns r c k (xs, ch)).1, (stp g ns r c k (xs, ch)).2, 1) := by
  obtain ⟨K', rfl⟩ : ∃ q, K = q + 2 := ⟨K - 2, by omega⟩
  have h6 := off_in h
  have h7 := total_le hb
  have e0 : (⟨⟨(tb g ns rs0).G.Start, (tb g ns rs0).G.Names, (tb g ns rs0).G.Rules⟩, (tb g ns rs0).W, (tb g ns rs0).wide, (tb g ns rs0).names, (tb g ns rs0).conj, xs⟩ : Templeref6_Table) = tb g ns xs := rfl
  have hw : ((tb g ns rs0).W.size : Int) = 0 := rfl
  have hwd : (tb g ns rs0).wide = 1 := rfl
  have w1 : IntKind.wrap .i64 ((0 : Int) + 1) = 1 := rfl
  have ei : IntKind.wrap .i64 (IntKind.wrap .i64 ((off g r c + (k : Int)) * 1) + 0) = off g r c + (k : Int) := by
    rw [Int.mul_one, wr (a := off g r c + (k : Int)) (by omega) (by omega), Int.add_zero, wr (by omega) (by omega)]
  simp only [templeref6_Table_fillRule.l3]
  rw [hw, if_pos (by decide), e0, t_rest hb hr h, Option.bind_some, w1]
  unfold stp
  by_cases c1 : 0 < rd xs (off g r c + (k : Int))
  · rw [decide_eq_true c1, if_neg (by decide), if_pos c1, if_neg (by decide)]
  · rw [decide_eq_false c1, if_pos (by decide), t_next (by omega) hb hn hl hr hs h, Option.bind_some, if_neg c1]
    by_cases c2 : nextB g ns xs r c k = true
    · rw [if_pos c2, t_place hb h, Option.bind_some, t_span, Option.bind_some, hwd, ei, if_pos (by omega), if_pos (by omega), if_pos c2, if_neg (by decide)]
    · rw [if_neg c2, if_neg c2, if_neg (by decide)]
theorem fr_l2 (rs0 xs : List Int) (ch : Bool) (hr : (xs.length : Int) = total_ g) {r c k : Nat} (h : Pl g r c k) : templeref6_Table_fillRule.l2 K (tb g ns rs0) (r : Int) (c : Int) (k : Int) K (xs, ch, 0) = some ((stp g ns r c k (xs, ch)).1, (stp g ns r c k (xs, ch)).2, 1) := by
  have h3 := fr_l3 hK hb hn hl hs rs0 xs ch hr h
  obtain ⟨K', rfl⟩ : ∃ q, K = q + 2 := ⟨K - 2, by omega⟩
  have hw : ((tb g ns rs0).W.size : Int) = 0 := rfl
  have w1 : IntKind.wrap .i64 ((0 : Int) + 1) = 1 := rfl
  simp only [templeref6_Table_fillRule.l2]
  rw [hw, if_pos (by decide), h3, Option.bind_some]
  simp only
  rw [w1, if_neg (by decide)]
/-- What a pass over places does. -/
def Gd (g : Grammar) (ns : List Int) (s0 s : List Int × Bool) : Prop := SX g ns s.1 ∧ Ext s0.1 s.1 ∧ ((s.2 = s0.2 ∧ s.1 = s0.1) ∨ (s.2 = true ∧ pz s.1 < pz s0.1))
omit hK hb hn hl hs in
theorem Gd.trans {s0 s1 s2 : List Int × Bool} (h1 : Gd g ns s0 s1) (h2 : Gd g ns s1 s2) : Gd g ns s0 s2 := by
  refine ⟨h2.1, h1.2.1.trans h2.2.1, ?_⟩
  rcases h1.2.2 with ⟨a, b⟩ | ⟨a, b⟩ <;> rcases h2.2.2 with ⟨c, d⟩ | ⟨c, d⟩
  · exact .inl ⟨c.trans a, d.trans b⟩
  · exact .inr ⟨c, by rw [b] at d; exact d⟩
  · exact .inr ⟨c.trans a, by rw [d]; exact b⟩
  · exact .inr ⟨c, Nat.lt_trans d b⟩
omit hK hb hn hl hs in
theorem stp_gd {s : List Int × Bool} (hx : SX g ns s.1) (hr : (s.1.length : Int) = total_ g) {r c k : Nat} (h : Pl g r c k) : Gd g ns s (stp g ns r c k s) ∧ (nextB g ns s.1 r c k = true → 0 < rd (stp g ns r c k s).1 (off g r c + (k : Int))) := by
  have h6 := off_in h
  unfold stp
  by_cases c1 : 0 < rd s.1 (off g r c + (k : Int))
  · rw [if_pos c1]
    exact ⟨⟨hx, Ext.refl _, .inl ⟨rfl, rfl⟩⟩, fun _ => c1⟩
  · rw [if_neg c1]
    by_cases c2 : nextB g ns s.1 r c k = true
    · rw [if_pos c2]
      refine ⟨⟨fun r' c' k' h' hp => ?_, Ext.set (by omega) (by omega), .inr ⟨rfl, ?_⟩⟩, fun _ => ?_⟩
      · have h6' := off_in h'
        simp only at hp
        rw [rdi_set _ (by omega) (by omega) (by omega)] at hp
        split at hp
        · rename_i e
          obtain ⟨rfl, rfl, rfl⟩ := off_inj h h' e
          exact suf_next hx h c2
        · exact hx r' c' k' h' hp
      · exact pz_set _ _ (by omega) c1
      · simp only
        rw [rdi_set _ (by omega) (by omega) (by omega), if_pos rfl]; decide
    · rw [if_neg c2]
      exact ⟨⟨hx, Ext.refl _, .inl ⟨rfl, rfl⟩⟩, fun h => absurd h c2⟩
theorem fr_l1 (rs0 : List Int) {r c : Nat} (hr : r < g.Rules.length) (hc : c < (rd g.Rules (r : Int)).Conj.length) : ∀ (k m : Nat) (s : List Int × Bool), k ≤ (seqA g r c).length + 1 → k < m → (s.1.length : Int) = total_ g → SX g ns s.1 → (∀ j, k ≤ j → j ≤ (seqA g r c).length → Suf g ns r c j → 0 < rd s.1 (off g r c + (j : Int))) →
    ∃ s', templeref6_Table_fillRule.l1 K (tb g ns rs0) (r : Int) (c : Int) m (s.1, s.2, (k : Int) - 1) = some (s'.1, s'.2, -1) ∧ Gd g ns s s' ∧ ∀ j, j ≤ (seqA g r c).length → Suf g ns r c j → 0 < rd s'.1 (off g r c + (j : Int))
  | 0, m, s, _, hm, ht, hx, hd => by
    obtain ⟨m, rfl⟩ : ∃ q, m = q + 1 := ⟨m - 1, by omega⟩
    simp only [templeref6_Table_fillRule.l1]
    rw [if_neg (by omega)]
    exact ⟨s, rfl, ⟨hx, Ext.refl _, .inl ⟨rfl, rfl⟩⟩, fun j hj h => hd j (Nat.zero_le _) hj h⟩
  | k + 1, m, s, hk, hm, ht, hx, hd => by
    obtain ⟨m, rfl⟩ : ∃ q, m = q + 1 := ⟨m - 1, by omega⟩
    have h64 : (seqA g r c).length ≤ 64 := (hb.2 _ (rd_mem (xs := g.Rules) (i := (r : Int)) (by omega) (by omega))).2 _ (rd_mem (xs := (rd g.Rules (r : Int)).Conj) (i := (c : Int)) (by omega) (by omega))
    have hp : Pl g r c k := ⟨hr, hc, by show k ≤ (seqA g r c).length; omega⟩
    obtain ⟨g1, g2⟩ := stp_gd (ns := ns) (s := s) hx ht hp
    have h2 := fr_l2 hK hb hn hl hs rs0 s.1 s.2 ht hp
    obtain ⟨s', h3, h4, h5⟩ := fr_l1 rs0 hr hc k m (stp g ns r c k s) (by omega) (by omega) (by rw [g1.2.1.1]; exact ht) g1.1 (fun j hj hjl hsuf => by
      have hpj : Pl g r c j := ⟨hr, hc, hjl⟩
      have h6 := off_in hpj
      rcases Nat.eq_or_lt_of_le hj with rfl | hj
      · exact g2 (next_suf hp hsuf fun hlt => hd (k + 1) (Nat.le_refl _) hlt fun i hi hil => hsuf i (by omega) hil)
      · exact g1.2.1.2 _ (by omega) (by omega) (hd j hj hjl hsuf))
    have e0 : ((k + 1 : Nat) : Int) - 1 = (k : Int) := by omega
    refine ⟨s', ?_, g1.trans h4, h5⟩
    rw [e0]
    simp only [templeref6_Table_fillRule.l1]
    rw [if_pos (by omega), h2, Option.bind_some, wr (by omega) (by omega)]
    exact h3
theorem fr_l0 (rs0 : List Int) {r : Nat} (hr : r < g.Rules.length) : ∀ (d c m : Nat) (s : List Int × Bool), c + d = (rd g.Rules (r : Int)).Conj.length → d < m → (s.1.length : Int) = total_ g → SX g ns s.1 → (∀ c', c' < c → ∀ j, j ≤ (seqA g r c').length → Suf g ns r c' j → 0 < rd s.1 (off g r c' + (j : Int))) →
    ∃ s', templeref6_Table_fillRule.l0 K (tb g ns rs0) (r : Int) m (s.1, s.2, (c : Int)) = some (s'.1, s'.2, ((rd g.Rules (r : Int)).Conj.length : Int)) ∧ Gd g ns s s' ∧ RX g ns s'.1 r
  | 0, c, m, s, hc, hm, ht, hx, hd => by
    obtain ⟨m, rfl⟩ : ∃ q, m = q + 1 := ⟨m - 1, by omega⟩
    have hG : (tb g ns rs0).G = g := rfl
    simp only [templeref6_Table_fillRule.l0]
    rw [hG, if_neg (by omega)]
    exact ⟨s, by congr 3; omega, ⟨hx, Ext.refl _, .inl ⟨rfl, rfl⟩⟩, fun c' k hp hsuf => hd c' (by have := hp.2.1; omega) k hp.2.2 hsuf⟩
  | d + 1, c, m, s, hc, hm, ht, hx, hd => by
    obtain ⟨m, rfl⟩ : ∃ q, m = q + 1 := ⟨m - 1, by omega⟩
    have hrb := hb.2 _ (rd_mem (xs := g.Rules) (i := (r : Int)) (by omega) (by omega))
    have h8 := hrb.1
    have h64 : (seqA g r c).length ≤ 64 := hrb.2 _ (rd_mem (xs := (rd g.Rules (r : Int)).Conj) (i := (c : Int)) (by omega) (by omega))
    obtain ⟨s1, h1, h2, h3⟩ := fr_l1 hK hb hn hl hs rs0 hr (show c < _ by omega) ((seqA g r c).length + 1) K s (by omega) (by omega) ht hx (fun j h1 h2 => by omega)
    obtain ⟨s2, h4, h5, h6⟩ := fr_l0 rs0 hr d (c + 1) m s1 (by omega) (by omega) (by rw [h2.2.1.1]; exact ht) h2.1 (fun c' hc' j hj hsuf => by
      have hpj : Pl g r c' j := ⟨hr, by omega, hj⟩
      have h6 := off_in hpj
      rcases Nat.lt_succ_iff_lt_or_eq.1 hc' with hc' | rfl
      · exact h2.2.1.2 _ (by omega) (by omega) (hd c' hc' j hj hsuf)
      · exact h3 j hj hsuf)
    have hG : (tb g ns rs0).G = g := rfl
    have e1 : ((rd (rd g.Rules (r : Int)).Conj (c : Int)).Seq.length : Int) = ((((seqA g r c).length + 1 : Nat) : Int) - 1) := by
      show ((seqA g r c).length : Int) = _; omega
    refine ⟨s2, ?_, h2.trans h5, h6⟩
    simp only [templeref6_Table_fillRule.l0]
    rw [hG, if_pos (by omega), if_pos (by omega), e1, h1, Option.bind_some, wr (by omega) (by omega)]
    exact h4
end
end Go.Proofs.Ytflbjhfklhidjaa

/-! PTabC -/
namespace Go.Proofs.Ytflbjhfklhidjaa
open S Go.Sort
set_option linter.unusedVariables false
set_option linter.unusedSimpArgs false
set_option linter.unusedSectionVars false
set_option maxRecDepth 100000

def hsN (ns : List Int) : List Bool := ns.map fun v => decide (0 < v)
theorem hsN_rd {ns : List Int} {x : Int} (h0 : 0 ≤ x) (h1 : x < ns.length) : rd (hsN ns) x = decide (0 < rd ns x) := by
  obtain ⟨j, rfl⟩ := Int.eq_ofNat_of_zero_le h0
  have hj : j < ns.length := by omega
  rw [rd_nat, rd_nat, List.getD_eq_getElem?_getD, List.getD_eq_getElem?_getD]
  unfold hsN
  rw [List.getElem?_map, List.getElem?_eq_getElem hj]; rfl
theorem hsN_set {ns : List Int} {i : Nat} : hsN (ns.set i 1) = (hsN ns).set i true := by
  unfold hsN
  rw [List.map_set]; rfl
def NmOk (g : Grammar) : Prop := ∀ q ∈ g.Rules, ∀ d ∈ q.Conj, ∀ s ∈ d.Seq, 0 ≤ s.Name → s.Name < g.Names.length
theorem empty_suf {g : Grammar} {ns : List Int} (hl : ns.length = g.Names.length) (hs : NmOk g) {r c : Nat} (hr : r < g.Rules.length) (hc : c < (rd g.Rules (r : Int)).Conj.length) : emptyC (hsN ns) (rd (rd g.Rules (r : Int)).Conj (c : Int)) = true ↔ Suf g ns r c 0 := by
  have hm := hs _ (rd_mem (xs := g.Rules) (i := (r : Int)) (by omega) (by omega)) _ (rd_mem (xs := (rd g.Rules (r : Int)).Conj) (i := (c : Int)) (by omega) (by omega))
  unfold emptyC
  rw [List.all_eq_true, ← all_rd (p := fun s => symE (hsN ns) s = true)]
  unfold Suf
  show (∀ i, i < (seqA g r c).length → symE (hsN ns) (rd (seqA g r c) (i : Int)) = true) ↔ _
  constructor
  · intro h j _ hj
    have h1 := h j hj
    unfold symE at h1
    rw [Bool.and_eq_true, decide_eq_true_eq] at h1
    have h2 := hm _ (rd_mem (xs := seqA g r c) (i := (j : Int)) (by omega) (by omega)) h1.1
    rw [hsN_rd h1.1 (by omega), decide_eq_true_eq] at h1
    exact h1
  · intro h j hj
    obtain ⟨h1, h3⟩ := h j (Nat.zero_le _) hj
    have h2 := hm _ (rd_mem (xs := seqA g r c) (i := (j : Int)) (by omega) (by omega)) h1
    unfold symE
    rw [decide_eq_true h1, hsN_rd h1 (by omega), decide_eq_true h3]; rfl
section
variable {K : Nat} {g : Grammar} (hK : 200000 ≤ K) (hb : Bd g) (hn : g.Names.length ≤ 64) (hs : NmOk g)
include hK hb hn hs
theorem t_holds {ns xs : List Int} (hl : ns.length = g.Names.length) (hr : (xs.length : Int) = total_ g) {r : Nat} (hrl : r < g.Rules.length) (hsx : SX g ns xs) (hrx : RX g ns xs r) : templeref6_Table_Holds K (tb g ns xs) (r : Int) 0 0 = some (holdsR (hsN ns) (rd g.Rules (r : Int))) := by
  have h8 := (hb.2 _ (rd_mem (xs := g.Rules) (i := (r : Int)) (by omega) (by omega))).1
  have hG : (tb g ns xs).G = g := rfl
  have hex : ∀ c, c < (rd g.Rules (r : Int)).Conj.length → (decide (0 < rd xs (off g r c + ((0 : Nat) : Int))) = emptyC (hsN ns) (rd (rd g.Rules (r : Int)).Conj (c : Int))) := fun c hc => by
    have hp : Pl g r c 0 := ⟨hrl, hc, Nat.zero_le _⟩
    rw [Bool.eq_iff_iff, decide_eq_true_eq, empty_suf hl hs hrl hc]
    exact ⟨hsx r c 0 hp, hrx c 0 hp⟩
  unfold templeref6_Table_Holds holdsR
  rw [hG, if_pos (by omega), if_pos (by omega)]
  rcases ask_all (n := (rd g.Rules (r : Int)).Conj.length) (K := K) (p := fun c => (emptyC (hsN ns) (rd (rd g.Rules (r : Int)).Conj (c : Int)) != (rd (rd g.Rules (r : Int)).Conj (c : Int)).Neg) = true) (L := templeref6_Table_Holds.l0 K (tb g ns xs) (r : Int) 0 0) (by omega) (fun m c hc => by
    have hp : Pl g r c 0 := ⟨hrl, hc, Nat.zero_le _⟩
    have h1 := t_rest (K := K) (ns := ns) hb hr hp
    simp only [templeref6_Table_Holds.l0]
    have h1' : templeref6_Table_Rest K (tb g ns xs) ⟨(r : Int), (c : Int), 0⟩ 0 0 = some (decide (0 < rd xs (off g r c + ((0 : Nat) : Int)))) := h1
    rw [hG, if_pos (by omega), h1', Option.bind_some, if_pos (by omega), hex c hc, wr (a := (c : Int) + 1) (by omega) (by omega)]
    by_cases e : emptyC (hsN ns) (rd (rd g.Rules (r : Int)).Conj (c : Int)) = (rd (rd g.Rules (r : Int)).Conj (c : Int)).Neg
    · rw [if_pos e]; exact .inr ⟨by simp [e], rfl⟩
    · rw [if_neg e]; exact .inl ⟨by simp [e], rfl⟩) (fun m => by simp only [templeref6_Table_Holds.l0]; rw [hG, if_neg (by omega)]) with ⟨h1, h2⟩ | ⟨h1, h2⟩
  · rw [h1, List.all_eq_true.2 (all_rd (p := fun c => (emptyC (hsN ns) c != c.Neg) = true).1 h2)]; rfl
  · rw [h1]
    have : ((rd g.Rules (r : Int)).Conj.all fun c => emptyC (hsN ns) c != c.Neg) = false := by
      cases hb : ((rd g.Rules (r : Int)).Conj.all fun c => emptyC (hsN ns) c != c.Neg) with
      | false => rfl
      | true => exact absurd (all_rd (p := fun c => (emptyC (hsN ns) c != c.Neg) = true).2 (List.all_eq_true.1 hb)) h2
    rw [this]; rfl
end
structure TI (g : Grammar) (lv : Int → Int) (t : Int) (ns rs : List Int) : Prop where
  nl : ns.length = g.Names.length
  rl : (rs.length : Int) = total_ g
  ri : RI g.Names.length g.Rules lv t (hsN ns)
  sx : SX g ns rs
  rx : ∀ r : Nat, r < g.Rules.length → lv (rd g.Rules (r : Int)).Head < t → RX g ns rs r
theorem Suf.mono {g : Grammar} {ns ms : List Int} {r c k : Nat} (hs : NmOk g) (hr : r < g.Rules.length) (hc : c < (rd g.Rules (r : Int)).Conj.length) (h : ∀ y : Int, 0 ≤ y → y < g.Names.length → 0 < rd ns y → 0 < rd ms y) (hsuf : Suf g ns r c k) : Suf g ms r c k := fun j hj hjl => by
  obtain ⟨h1, h2⟩ := hsuf j hj hjl
  have hm := hs _ (rd_mem (xs := g.Rules) (i := (r : Int)) (by omega) (by omega)) _ (rd_mem (xs := (rd g.Rules (r : Int)).Conj) (i := (c : Int)) (by omega) (by omega)) _ (rd_mem (xs := seqA g r c) (i := (j : Int)) (by omega) (by omega)) h1
  exact ⟨h1, h _ h1 hm h2⟩
theorem TI.more {g : Grammar} {lv : Int → Int} {t : Int} {ns rs rs' : List Int} (h : TI g lv t ns rs) (hsx : SX g ns rs') (he : Ext rs rs') : TI g lv t ns rs' :=
  ⟨h.nl, by rw [he.1]; exact h.rl, h.ri, hsx, fun r hr ht c k hp hsuf => by
    have h6 := off_in hp
    have := h.rl
    exact he.2 _ (by omega) (by omega) (h.rx r hr ht c k hp hsuf)⟩
theorem TI.put {g : Grammar} {lv : Int → Int} {t : Int} {ns rs : List Int} (hl : LvOk g.Names.length g.Rules lv) (hs : NmOk g) (h : TI g lv t ns rs) {r : Nat} (hr : r < g.Rules.length) (ht : lv (rd g.Rules (r : Int)).Head = t) (hno : ¬ 0 < rd ns (rd g.Rules (r : Int)).Head) (hh : holdsR (hsN ns) (rd g.Rules (r : Int)) = true) : TI g lv t (ns.set (rd g.Rules (r : Int)).Head.toNat 1) rs := by
  have hm := rd_mem (xs := g.Rules) (i := (r : Int)) (by omega) (by omega)
  obtain ⟨⟨r0, r1⟩, _⟩ := hl _ hm
  have hnl := h.nl
  have hset : ∀ y : Int, 0 ≤ y → rd (ns.set (rd g.Rules (r : Int)).Head.toNat 1) y = if (rd g.Rules (r : Int)).Head = y then 1 else rd ns y := fun y hy => rdi_set _ r0 (by omega) hy
  refine ⟨by simpa using hnl, h.rl, ?_, fun r' c k hp hx => ?_, fun r' hr' ht' c k hp hsuf => ?_⟩
  · rw [hsN_set]
    refine h.ri.put hl hm ht ?_ hh
    rw [hsN_rd r0 (by omega), decide_eq_false hno]
  · refine (h.sx r' c k hp hx).mono hs hp.1 hp.2.1 fun y a b hy => ?_
    rw [hset y a]; split
    · decide
    · exact hy
  · refine h.rx r' hr' ht' c k hp fun j hj hjl => ?_
    obtain ⟨h1, h2⟩ := hsuf j hj hjl
    have hm' := rd_mem (xs := g.Rules) (i := (r' : Int)) (by omega) (by omega)
    obtain ⟨_, h4⟩ := hl _ hm'
    have h5 := h4 _ (rd_mem (xs := (rd g.Rules (r' : Int)).Conj) (i := (c : Int)) (by omega) (by have := hp.2.1; omega)) _ (rd_mem (xs := seqA g r' c) (i := (j : Int)) (by omega) (by omega)) h1
    refine ⟨h1, ?_⟩
    rw [hset _ h1] at h2
    split at h2
    · rename_i e
      exfalso
      rw [← e, ht] at h5
      have := h5.2
      split at this <;> omega
    · exact h2
section
variable {K : Nat} {g : Grammar} {lv : Int → Int} (hK : 200000 ≤ K) (hb : Bd g) (hn : g.Names.length ≤ 64) (hs : NmOk g) (hlv : LvOk g.Names.length g.Rules lv)
include hK hb hn hs hlv
theorem fr_spec {t : Int} {ns rs : List Int} (h : TI g lv t ns rs) {r : Nat} (hr : r < g.Rules.length) (ht : lv (rd g.Rules (r : Int)).Head = t) :
    ∃ ch ns' rs', templeref6_Table_fillRule K (tb g ns rs) (r : Int) = some (ch, tb g ns' rs') ∧ TI g lv t ns' rs' ∧ ((ch = false ∧ ns' = ns ∧ rs' = rs ∧ RX g ns rs r ∧ (holdsR (hsN ns) (rd g.Rules (r : Int)) = true → 0 < rd ns (rd g.Rules (r : Int)).Head)) ∨ (ch = true ∧ pz ns' + pz rs' < pz ns + pz rs)) := by
  have hm := rd_mem (xs := g.Rules) (i := (r : Int)) (by omega) (by omega)
  obtain ⟨⟨r0, r1⟩, _⟩ := hlv _ hm
  have h8 := (hb.2 _ hm).1
  have hnl := h.nl
  obtain ⟨⟨rs', ch⟩, g1, g2, g3⟩ := fr_l0 hK hb hn hnl hs rs hr (rd g.Rules (r : Int)).Conj.length 0 K (rs, false) (by omega) (by omega) h.rl h.sx (fun c' h => by omega)
  simp only at g1 g2 g3
  have hT := h.more g2.1 g2.2.1
  have hT' : TI g lv t ns rs' := hT
  have hrl : (rs'.length : Int) = total_ g := hT'.rl
  have hold := t_holds hK hb hn hs hnl hrl hr g2.1 g3
  have hhas := t_has (K := K) (g := g) (ns := ns) (rs := rs') hn hnl r0 r1
  have hG : (tb g ns rs).G = g := rfl
  have hw : ((tb g ns rs).W.size : Int) = 0 := rfl
  have hwd : (tb g ns rs).wide = 1 := rfl
  have hnm : (tb g ns rs).names = ns := rfl
  have hrt : (tb g ns rs).rests = rs := rfl
  have e0 : ∀ ns' : List Int, (⟨⟨g.Start, g.Names, g.Rules⟩, (tb g ns rs).W, 1, ns', (tb g ns rs).conj, rs'⟩ : Templeref6_Table) = tb g ns' rs' := fun _ => rfl
  have w1 : IntKind.wrap .i64 ((0 : Int) + 1) = 1 := rfl
  have ei : IntKind.wrap .i64 (IntKind.wrap .i64 ((rd g.Rules (r : Int)).Head * 1) + 0) = (rd g.Rules (r : Int)).Head := by
    rw [Int.mul_one, wr (a := (rd g.Rules (r : Int)).Head) (by omega) (by omega), Int.add_zero, wr (by omega) (by omega)]
  -- the head
  have hl5 : ∃ s' : List Int × Bool, templeref6_Table_fillRule.l5 K (tb g ns rs) (r : Int) rs' 0 K (ns, ch, 0) = some (s'.1, s'.2, 1) ∧ ((s' = (ns, ch) ∧ (holdsR (hsN ns) (rd g.Rules (r : Int)) = true → 0 < rd ns (rd g.Rules (r : Int)).Head)) ∨ (s' = (ns.set (rd g.Rules (r : Int)).Head.toNat 1, true) ∧ ¬ 0 < rd ns (rd g.Rules (r : Int)).Head ∧ holdsR (hsN ns) (rd g.Rules (r : Int)) = true)) := by
    obtain ⟨K', rfl⟩ : ∃ q, K = q + 2 := ⟨K - 2, by omega⟩
    simp only [templeref6_Table_fillRule.l5]
    rw [hG, hw, hwd, if_pos (by decide), e0, hhas, Option.bind_some, w1]
    by_cases c1 : 0 < rd ns (rd g.Rules (r : Int)).Head
    · rw [decide_eq_true c1, if_neg (by decide), if_neg (by decide)]
      exact ⟨(ns, ch), rfl, .inl ⟨rfl, fun _ => c1⟩⟩
    · rw [decide_eq_false c1, if_pos (by decide), hold, Option.bind_some]
      cases c2 : holdsR (hsN ns) (rd g.Rules (r : Int)) with
      | true =>
        rw [if_pos rfl, t_span, Option.bind_some, ei, if_pos r0, if_pos (by omega), if_neg (by decide)]
        exact ⟨_, rfl, .inr ⟨rfl, c1, rfl⟩⟩
      | false =>
        rw [if_neg (by decide), if_neg (by decide)]
        exact ⟨(ns, ch), rfl, .inl ⟨rfl, fun h => by cases h⟩⟩
  obtain ⟨s', h5, h6⟩ := hl5
  have hl4 : templeref6_Table_fillRule.l4 K (tb g ns rs) (r : Int) rs' K (ns, ch, 0) = some (s'.1, s'.2, 1) := by
    obtain ⟨K', rfl⟩ : ∃ q, K = q + 2 := ⟨K - 2, by omega⟩
    simp only [templeref6_Table_fillRule.l4]
    rw [hw, if_pos (by decide), h5, Option.bind_some]
    simp only
    rw [w1, if_neg (by decide)]
  have hfin : templeref6_Table_fillRule K (tb g ns rs) (r : Int) = some (s'.2, tb g s'.1 rs') := by
    unfold templeref6_Table_fillRule
    have g1' : templeref6_Table_fillRule.l0 K (tb g ns rs) (r : Int) K (rs, false, 0) = some (rs', ch, ((rd g.Rules (r : Int)).Conj.length : Int)) := g1
    rw [hG, if_pos (by omega), if_pos (by omega), hrt, g1', Option.bind_some]
    simp only
    rw [hnm, hl4]
    rfl
  refine ⟨s'.2, s'.1, rs', hfin, ?_⟩
  rcases h6 with ⟨rfl, h7⟩ | ⟨rfl, h7, h8⟩
  · refine ⟨hT', ?_⟩
    rcases g2.2.2 with ⟨a, b⟩ | ⟨a, b⟩
    · simp only at a b
      subst b
      exact .inl ⟨a, rfl, rfl, g3, h7⟩
    · simp only at a b
      exact .inr ⟨a, by simp only; omega⟩
  · refine ⟨hT'.put hlv hs hr ht h7 h8, .inr ⟨rfl, ?_⟩⟩
    have h9 := pz_set ns (rd g.Rules (r : Int)).Head.toNat (by omega) h7
    rcases g2.2.2 with ⟨a, b⟩ | ⟨a, b⟩
    · simp only at a b ⊢
      rw [b]; omega
    · simp only at a b ⊢
      omega
end
end Go.Proofs.Ytflbjhfklhidjaa

/-! PTabD -/
namespace Go.Proofs.Ytflbjhfklhidjaa
open S Go.Sort
set_option linter.unusedVariables false
set_option linter.unusedSimpArgs false
set_option linter.unusedSectionVars false
set_option maxRecDepth 100000

abbrev St10 := (List Int) × (List Int) × Int × (List ByteArray) × (List Rule) × ByteArray × Int × (List (List Int)) × Bool × Int
abbrev St9 := (List Int) × (List Int) × Int × (List ByteArray) × (List Rule) × ByteArray × Int × (List (List Int)) × Bool
def s10 (g : Grammar) (ns rs : List Int) (ch : Bool) (i : Int) : St10 := (ns, rs, g.Start, g.Names, g.Rules, ⟨#[]⟩, 1, cjs g, ch, i)
def s9 (g : Grammar) (ns rs : List Int) (ch : Bool) : St9 := (ns, rs, g.Start, g.Names, g.Rules, ⟨#[]⟩, 1, cjs g, ch)
section
variable {K : Nat} {g : Grammar} {xs : List Int} (hK : 200000 ≤ K) (hb : Bd g) (hn : g.Names.length ≤ 64) (hs : NmOk g) (hx : xs.length = g.Names.length) (hlv : LvOk g.Names.length g.Rules (rd xs))
theorem f1_step (m : Nat) (ns rs : List Int) (ch : Bool) (i t : Int) : templeref6_Table_fill.l1 K xs t (m + 1) (s10 g ns rs ch i) = if i < (g.Rules.length : Int) then if 0 ≤ i then if 0 ≤ (rd g.Rules i).Head then if (rd g.Rules i).Head < (xs.length : Int) then if (rd xs ((rd g.Rules i).Head)) ≠ t then templeref6_Table_fill.l1 K xs t m (s10 g ns rs ch (IntKind.wrap .i64 (i + 1))) else (templeref6_Table_fillRule K (tb g ns rs) i).bind fun r_36 => if r_36.1 = true then templeref6_Table_fill.l1 K xs t m (r_36.2.names, r_36.2.rests, r_36.2.G.Start, r_36.2.G.Names, r_36.2.G.Rules, r_36.2.W, r_36.2.wide, r_36.2.conj, true, IntKind.wrap .i64 (i + 1)) else templeref6_Table_fill.l1 K xs t m (r_36.2.names, r_36.2.rests, r_36.2.G.Start, r_36.2.G.Names, r_36.2.G.Rules, r_36.2.W, r_36.2.wide, r_36.2.conj, ch, IntKind.wrap .i64 (i + 1)) else none else none else none else some (s10 g ns rs ch i) := rfl
include hK hb hn hs hx hlv
theorem f1_spec {t : Int} {n0 r0 : List Int} (h0 : TI g (rd xs) t n0 r0) :
    ∃ ns rs ch, templeref6_Table_fill.l1 K xs t K (s10 g n0 r0 false 0) = some (s10 g ns rs ch (g.Rules.length : Int)) ∧ TI g (rd xs) t ns rs ∧ ((ch = false ∧ ∀ r : Nat, r < g.Rules.length → rd xs (rd g.Rules (r : Int)).Head = t → RX g ns rs r ∧ (holdsR (hsN ns) (rd g.Rules (r : Int)) = true → 0 < rd ns (rd g.Rules (r : Int)).Head)) ∨ (ch = true ∧ pz ns + pz rs < pz n0 + pz r0)) := by
  have h256 := hb.1
  have key : ∀ (d u m : Nat) (ns rs : List Int) (ch : Bool), u + d = g.Rules.length → d < m → TI g (rd xs) t ns rs → ((ch = false ∧ ns = n0 ∧ rs = r0 ∧ ∀ r : Nat, r < u → rd xs (rd g.Rules (r : Int)).Head = t → RX g n0 r0 r ∧ (holdsR (hsN n0) (rd g.Rules (r : Int)) = true → 0 < rd n0 (rd g.Rules (r : Int)).Head)) ∨ (ch = true ∧ pz ns + pz rs < pz n0 + pz r0)) →
      ∃ ns' rs' ch', templeref6_Table_fill.l1 K xs t m (s10 g ns rs ch (u : Int)) = some (s10 g ns' rs' ch' (g.Rules.length : Int)) ∧ TI g (rd xs) t ns' rs' ∧ ((ch' = false ∧ ∀ r : Nat, r < g.Rules.length → rd xs (rd g.Rules (r : Int)).Head = t → RX g ns' rs' r ∧ (holdsR (hsN ns') (rd g.Rules (r : Int)) = true → 0 < rd ns' (rd g.Rules (r : Int)).Head)) ∨ (ch' = true ∧ pz ns' + pz rs' < pz n0 + pz r0)) := by
    intro d
    induction d with
    | zero =>
      intro u m ns rs ch hu hm hT hd
      obtain ⟨m, rfl⟩ : ∃ q, m = q + 1 := ⟨m - 1, by omega⟩
      have : u = g.Rules.length := by omega
      subst this
      rw [f1_step, if_neg (by omega)]
      refine ⟨ns, rs, ch, rfl, hT, ?_⟩
      rcases hd with ⟨a, rfl, rfl, b⟩ | h
      · exact .inl ⟨a, b⟩
      · exact .inr h
    | succ d ih =>
      intro u m ns rs ch hu hm hT hd
      obtain ⟨m, rfl⟩ : ∃ q, m = q + 1 := ⟨m - 1, by omega⟩
      have hul : u < g.Rules.length := by omega
      obtain ⟨⟨a0, a1⟩, _⟩ := hlv _ (rd_mem (xs := g.Rules) (i := (u : Int)) (by omega) (by omega))
      have e1 : (u : Int) + 1 = ((u + 1 : Nat) : Int) := by omega
      rw [f1_step, if_pos (by omega), if_pos (by omega), if_pos a0, if_pos (by omega), wr (a := (u : Int) + 1) (by omega) (by omega), e1]
      by_cases c : rd xs (rd g.Rules (u : Int)).Head = t
      · rw [if_neg (fun h => h c)]
        obtain ⟨ch1, ns1, rs1, g1, g2, g3⟩ := fr_spec hK hb hn hs hlv hT hul c
        rw [g1, Option.bind_some]
        rcases g3 with ⟨rfl, rfl, rfl, g4, g5⟩ | ⟨rfl, g4⟩
        · refine ih (u + 1) m ns1 rs1 ch (by omega) (by omega) g2 ?_
          rcases hd with ⟨a, rfl, rfl, b⟩ | h
          · refine .inl ⟨a, rfl, rfl, fun r hr hrt => ?_⟩
            rcases Nat.lt_succ_iff_lt_or_eq.1 hr with hr | rfl
            · exact b r hr hrt
            · exact ⟨g4, g5⟩
          · exact .inr h
        · refine ih (u + 1) m ns1 rs1 true (by omega) (by omega) g2 (.inr ⟨rfl, ?_⟩)
          rcases hd with ⟨a, rfl, rfl, b⟩ | h
          · exact g4
          · exact Nat.lt_trans g4 h.2
      · rw [if_pos c]
        refine ih (u + 1) m ns rs ch (by omega) (by omega) hT ?_
        rcases hd with ⟨a, rfl, rfl, b⟩ | h
        · refine .inl ⟨a, rfl, rfl, fun r hr hrt => ?_⟩
          rcases Nat.lt_succ_iff_lt_or_eq.1 hr with hr | rfl
          · exact b r hr hrt
          · exact absurd hrt c
        · exact .inr h
  exact key g.Rules.length 0 K n0 r0 false (by omega) (by omega) h0 (.inl ⟨rfl, rfl, rfl, fun r hr => by omega⟩)
omit hK hb hn hs hx hlv in
theorem f0_step (m : Nat) (ns rs : List Int) (ch : Bool) (t : Int) : templeref6_Table_fill.l0 K xs t (m + 1) (s9 g ns rs ch) = if ch = true then (templeref6_Table_fill.l1 K xs t K (s10 g ns rs false 0)).bind fun (xs_20, xs_22, c_23, c_24, c_25, c_26, c_27, c_28, changed_29, i_30) => templeref6_Table_fill.l0 K xs t m (xs_20, xs_22, c_23, c_24, c_25, c_26, c_27, c_28, changed_29) else some (s9 g ns rs ch) := rfl
theorem f0_spec {t : Int} : ∀ (d m : Nat) (ns rs : List Int), pz ns + pz rs ≤ d → d + 1 < m → TI g (rd xs) t ns rs → ∃ ns' rs', templeref6_Table_fill.l0 K xs t m (s9 g ns rs true) = some (s9 g ns' rs' false) ∧ TI g (rd xs) (t + 1) ns' rs'
  | d, m, ns, rs, hd, hm, hT => by
    obtain ⟨m, rfl⟩ : ∃ q, m = q + 1 := ⟨m - 1, by omega⟩
    obtain ⟨ns1, rs1, ch, g1, g2, g3⟩ := f1_spec hK hb hn hs hx hlv hT
    rw [f0_step, if_pos rfl, g1, Option.bind_some]
    rcases g3 with ⟨rfl, g4⟩ | ⟨rfl, g4⟩
    · obtain ⟨m, rfl⟩ : ∃ q, m = q + 1 := ⟨m - 1, by omega⟩
      refine ⟨ns1, rs1, ?_, g2.nl, g2.rl, ⟨g2.ri.len, fun x a b h => by have := g2.ri.a x a b h; omega, g2.ri.b, fun r hr ht hh => ?_, g2.ri.d⟩, g2.sx, fun r hr ht => ?_⟩
      · show templeref6_Table_fill.l0 K xs t (m + 1) (s9 g ns1 rs1 false) = _
        rw [f0_step, if_neg (by decide)]
      · obtain ⟨⟨a0, a1⟩, _⟩ := hlv r hr
        by_cases c : rd xs r.Head = t
        · obtain ⟨i, hi, rfl⟩ := List.getElem_of_mem hr
          have e : rd g.Rules (i : Int) = g.Rules[i] := by rw [rd_nat, List.getD_eq_getElem?_getD, List.getElem?_eq_getElem hi]; rfl
          have h5 := (g4 i hi (by rw [e]; exact c)).2
          rw [e] at h5
          have hnl := g2.nl
          rw [hsN_rd a0 (by omega), decide_eq_true_eq]; exact h5 hh
        · exact g2.ri.c r hr (by omega) hh
      · by_cases c : rd xs (rd g.Rules (r : Int)).Head = t
        · exact (g4 r hr c).1
        · exact g2.rx r hr (by omega)
    · cases d with
      | zero => omega
      | succ d =>
        exact f0_spec d m ns1 rs1 (by omega) (by omega) g2
theorem fill_spec {t : Int} {ns rs : List Int} (hT : TI g (rd xs) t ns rs) : ∃ ns' rs', templeref6_Table_fill K (tb g ns rs) xs t = some (tb g ns' rs') ∧ TI g (rd xs) (t + 1) ns' rs' := by
  have h1 := pz_le ns
  have h2 := pz_le rs
  have h3 := hT.nl
  have h4 := hT.rl
  have h5 := total_le hb
  obtain ⟨ns', rs', g1, g2⟩ := f0_spec hK hb hn hs hx hlv (pz ns + pz rs) K ns rs (Nat.le_refl _) (by omega) hT
  refine ⟨ns', rs', ?_, g2⟩
  unfold templeref6_Table_fill
  have g1' : templeref6_Table_fill.l0 K xs t K ((tb g ns rs).names, (tb g ns rs).rests, (tb g ns rs).G.Start, (tb g ns rs).G.Names, (tb g ns rs).G.Rules, (tb g ns rs).W, (tb g ns rs).wide, (tb g ns rs).conj, true) = some (s9 g ns' rs' false) := g1
  rw [g1']
  rfl
end
end Go.Proofs.Ytflbjhfklhidjaa

/-! PTabE -/
namespace Go.Proofs.Ytflbjhfklhidjaa
open S Go.Sort
set_option linter.unusedVariables false
set_option linter.unusedSimpArgs false
set_option linter.unusedSectionVars false
set_option maxRecDepth 100000

def rankB (g : Grammar) (qs : List Int) (r : Nat) : Prop := ∀ c : Nat, c < (rd g.Rules (r : Int)).Conj.length → (rd (rd g.Rules (r : Int)).Conj (c : Int)).Neg = false → rd qs (off g r c) ≠ 0
section
variable {K : Nat} {g : Grammar} {ns rs ms qs : List Int} (hK : 200000 ≤ K) (hb : Bd g) (hn : g.Names.length ≤ 64) (hs : NmOk g) (hnl : ns.length = g.Names.length) (hrl : (rs.length : Int) = total_ g) (hml : ms.length = g.Names.length) (hql : (qs.length : Int) = total_ g)
include hK hb hn hs hql in
theorem t_ranked {r : Nat} (hr : r < g.Rules.length) : ∃ b, templeref6_Table_ranked K (tb g ns rs) qs (r : Int) 0 0 = some b ∧ (b = true ↔ rankB g qs r) := by
  have h8 := (hb.2 _ (rd_mem (xs := g.Rules) (i := (r : Int)) (by omega) (by omega))).1
  have h4 := cjs_len g
  have h5 := cjs_row hr
  have h7 := total_le hb
  have hG : (tb g ns rs).G = g := rfl
  have hc : (tb g ns rs).conj = cjs g := rfl
  have hwd : (tb g ns rs).wide = 1 := rfl
  unfold templeref6_Table_ranked
  rw [hG, if_pos (by omega), if_pos (by omega)]
  rcases ask_all (n := (rd g.Rules (r : Int)).Conj.length) (K := K) (p := fun c => (rd (rd g.Rules (r : Int)).Conj (c : Int)).Neg = false → rd qs (off g r c) ≠ 0) (L := templeref6_Table_ranked.l0 K (tb g ns rs) qs (r : Int) 0 0) (by omega) (fun m c hcl => by
    have h6 := off_in (show Pl g r c 0 from ⟨hr, hcl, Nat.zero_le _⟩)
    have ei : IntKind.wrap .i64 (IntKind.wrap .i64 (off g r c * 1) + 0) = off g r c := by
      rw [Int.mul_one, wr (a := off g r c) (by omega) (by omega), Int.add_zero, wr (by omega) (by omega)]
    have eo : rd (rd (cjs g) (r : Int)) (c : Int) = off g r c := rfl
    simp only [templeref6_Table_ranked.l0]
    rw [hG, hc, hwd, if_pos (by omega), if_pos (by omega), wr (a := (c : Int) + 1) (by omega) (by omega)]
    cases hneg : (rd (rd g.Rules (r : Int)).Conj (c : Int)).Neg with
    | true => rw [if_neg (by decide)]; exact .inl ⟨fun h => Bool.noConfusion h, rfl⟩
    | false =>
      rw [if_pos (show (!false) = true from rfl), if_pos (by omega), if_pos (by omega), t_span, Option.bind_some, eo, ei, if_pos (by omega), if_pos (by omega)]
      by_cases e : rd qs (off g r c) = 0
      · rw [if_pos e]; exact .inr ⟨fun h => h rfl e, rfl⟩
      · rw [if_neg e]; exact .inl ⟨fun _ => e, rfl⟩) (fun m => by simp only [templeref6_Table_ranked.l0]; rw [hG, if_neg (by omega)]) with ⟨h1, h2⟩ | ⟨h1, h2⟩
  · rw [h1]; exact ⟨true, rfl, fun _ => h2, fun _ => rfl⟩
  · rw [h1]; exact ⟨false, rfl, fun h => Bool.noConfusion h, fun h => absurd h h2⟩
include hK hb hn hs hml hql in
theorem t_split {r c k : Nat} (h : Pl g r c k) : templeref6_Table_split K (tb g ns rs) ms qs ⟨(r : Int), (c : Int), (k : Int)⟩ 0 0 = some (nextB g ms qs r c k) := by
  have h1 := h.1
  have h2 := h.2.1
  have h3 := h.2.2
  have h6 := off_in h
  have h7 := total_le hb
  have hwd : (tb g ns rs).wide = 1 := rfl
  unfold templeref6_Table_split nextB
  rw [t_symbol h, Option.bind_some, t_place hb h, Option.bind_some]
  by_cases e : k = (rd (rd g.Rules (r : Int)).Conj (c : Int)).Seq.length
  · rw [if_pos e, if_pos e]; rfl
  · rw [if_neg e, if_neg e]
    have hm := hs _ (rd_mem (xs := g.Rules) (i := (r : Int)) (by omega) (by omega)) _ (rd_mem (xs := (rd g.Rules (r : Int)).Conj) (i := (c : Int)) (by omega) (by omega)) _ (rd_mem (xs := (rd (rd g.Rules (r : Int)).Conj (c : Int)).Seq) (i := (k : Int)) (by omega) (by omega))
    have h6' := off_in (show Pl g r c (k + 1) from ⟨h1, h2, by omega⟩)
    generalize rd (rd (rd g.Rules (r : Int)).Conj (c : Int)).Seq (k : Int) = x at hm ⊢
    simp only
    rw [if_neg (by decide)]
    by_cases c0 : x.Name < 0
    · rw [if_pos c0, decide_eq_false (by omega), Bool.false_and]
      unfold templeref6_Table_Byte
      rw [if_neg (by decide)]
      rfl
    · have hx := hm (by omega)
      obtain ⟨K', rfl⟩ : ∃ q, K = q + 2 := ⟨K - 2, by omega⟩
      have ei : IntKind.wrap .i64 (IntKind.wrap .i64 (x.Name * 1) + 0) = x.Name := by
        rw [Int.mul_one, wr (a := x.Name) (by omega) (by omega), Int.add_zero, wr (by omega) (by omega)]
      have ej : IntKind.wrap .i64 (IntKind.wrap .i64 (IntKind.wrap .i64 (off g r c + (k : Int) + 1) * 1) + 0) = off g r c + (k : Int) + 1 := by
        rw [wr (a := off g r c + (k : Int) + 1) (by omega) (by omega), Int.mul_one, wr (a := off g r c + (k : Int) + 1) (by omega) (by omega), Int.add_zero, wr (by omega) (by omega)]
      rw [if_neg c0, decide_eq_true (show 0 ≤ x.Name by omega), Bool.true_and]
      simp only [templeref6_Table_split.l0]
      rw [hwd, if_pos (by decide), t_span, Option.bind_some, ei, if_pos (by omega), if_pos (by omega)]
      by_cases c1 : 0 < rd ms x.Name
      · rw [if_pos c1, decide_eq_true c1, Bool.true_and, Option.bind_some, ej, if_pos (by omega), if_pos (by omega)]
        by_cases c2 : 0 < rd qs (off g r c + (k : Int) + 1)
        · rw [if_pos c2, decide_eq_true c2]; rfl
        · rw [if_neg c2, decide_eq_false c2, if_neg (by decide)]; rfl
      · rw [if_neg c1, decide_eq_false c1, Bool.false_and, if_neg (by decide)]; rfl

/-! ## round -/
def CandA (g : Grammar) (ns ms qs : List Int) (r : Nat) : Prop := 0 < rd ns (rd g.Rules (r : Int)).Head ∧ rd ms (rd g.Rules (r : Int)).Head = 0 ∧ holdsR (hsN ns) (rd g.Rules (r : Int)) = true ∧ rankB g qs r
def CandB (g : Grammar) (rs ms qs : List Int) (r c k : Nat) : Prop := 0 < rd rs (off g r c + (k : Int)) ∧ rd qs (off g r c + (k : Int)) = 0 ∧ nextB g ms qs r c k = true
def GdA (g : Grammar) (ns ms : List Int) (x : Int) : Prop := (0 ≤ x ∧ x < g.Names.length) ∧ 0 < rd ns x ∧ rd ms x = 0
def GdB (g : Grammar) (rs qs : List Int) (x : Int) : Prop := (0 ≤ x ∧ x < total_ g) ∧ 0 < rd rs x ∧ rd qs x = 0
include hK hb hn hs hnl hrl hml hql
theorem ro_l1 {lv : Int → Int} (hlv : LvOk g.Names.length g.Rules lv) (hsx : SX g ns rs) {r : Nat} (hr : r < g.Rules.length) (hrx : RX g ns rs r) (a : List Int) (hal : a.length ≤ 1000) :
    ∃ a', templeref6_Table_round.l1 K (tb g ns rs) ms qs (r : Int) K (a, 0) = some (a', 1) ∧ ((a' = a ∧ ¬ CandA g ns ms qs r) ∨ (a' = a ++ [(rd g.Rules (r : Int)).Head] ∧ GdA g ns ms (rd g.Rules (r : Int)).Head)) := by
  obtain ⟨⟨r0, r1⟩, _⟩ := hlv _ (rd_mem (xs := g.Rules) (i := (r : Int)) (by omega) (by omega))
  have hG : (tb g ns rs).G = g := rfl
  have hw : ((tb g ns rs).W.size : Int) = 0 := rfl
  have hwd : (tb g ns rs).wide = 1 := rfl
  have hnm : (tb g ns rs).names = ns := rfl
  have w1 : IntKind.wrap .i64 ((0 : Int) + 1) = 1 := rfl
  have ei : IntKind.wrap .i64 (IntKind.wrap .i64 ((rd g.Rules (r : Int)).Head * 1) + 0) = (rd g.Rules (r : Int)).Head := by
    rw [Int.mul_one, wr (a := (rd g.Rules (r : Int)).Head) (by omega) (by omega), Int.add_zero, wr (by omega) (by omega)]
  have hold := t_holds hK hb hn hs hnl hrl hr hsx hrx
  obtain ⟨b, hrk, hrk2⟩ := t_ranked (ns := ns) (rs := rs) hK hb hn hs hql hr
  have h2 : ∃ a', templeref6_Table_round.l2 K (tb g ns rs) ms qs (r : Int) 0 K (a, 0) = some (a', 1) ∧ ((a' = a ∧ ¬ CandA g ns ms qs r) ∨ (a' = a ++ [(rd g.Rules (r : Int)).Head] ∧ GdA g ns ms (rd g.Rules (r : Int)).Head)) := by
    obtain ⟨K', rfl⟩ : ∃ q, K = q + 2 := ⟨K - 2, by omega⟩
    simp only [templeref6_Table_round.l2]
    rw [hG, hw, hwd, hnm, if_pos (by decide), t_span, Option.bind_some, ei, w1, if_pos r0, if_pos (by omega)]
    by_cases c1 : 0 < rd ns (rd g.Rules (r : Int)).Head
    · rw [if_pos c1, if_pos (by omega)]
      by_cases c2 : rd ms (rd g.Rules (r : Int)).Head = 0
      · rw [if_pos c2, hold, Option.bind_some]
        cases c3 : holdsR (hsN ns) (rd g.Rules (r : Int)) with
        | true =>
          rw [if_pos rfl, hrk, Option.bind_some]
          by_cases c4 : b = true
          · rw [if_pos c4, if_pos (by simp only [List.length_singleton]; omega), if_neg (by decide)]
            exact ⟨_, rfl, .inr ⟨rfl, ⟨r0, r1⟩, c1, c2⟩⟩
          · rw [if_neg c4, if_neg (by decide)]
            exact ⟨_, rfl, .inl ⟨rfl, fun h => c4 (hrk2.2 h.2.2.2)⟩⟩
        | false =>
          rw [if_neg (by decide), if_neg (by decide)]
          exact ⟨_, rfl, .inl ⟨rfl, fun h => by have := h.2.2.1; rw [c3] at this; cases this⟩⟩
      · rw [if_neg c2, if_neg (by decide)]
        exact ⟨_, rfl, .inl ⟨rfl, fun h => c2 h.2.1⟩⟩
    · rw [if_neg c1, if_neg (by decide)]
      exact ⟨_, rfl, .inl ⟨rfl, fun h => c1 h.1⟩⟩
  obtain ⟨a', h3, h4⟩ := h2
  refine ⟨a', ?_, h4⟩
  obtain ⟨K', rfl⟩ : ∃ q, K = q + 2 := ⟨K - 2, by omega⟩
  simp only [templeref6_Table_round.l1]
  rw [hw, if_pos (by decide), h3, Option.bind_some]
  simp only
  rw [w1, if_neg (by decide)]
theorem ro_l5 {r c k : Nat} (h : Pl g r c k) (b : List Int) (hbl : b.length ≤ 1000000) :
    ∃ b', templeref6_Table_round.l5 K (tb g ns rs) ms qs (r : Int) (c : Int) (k : Int) K (b, 0) = some (b', 1) ∧ ((b' = b ∧ ¬ CandB g rs ms qs r c k) ∨ (b' = b ++ [off g r c + (k : Int)] ∧ GdB g rs qs (off g r c + (k : Int)))) := by
  have h6 := off_in h
  have h7 := total_le hb
  have hw : ((tb g ns rs).W.size : Int) = 0 := rfl
  have hwd : (tb g ns rs).wide = 1 := rfl
  have hrt : (tb g ns rs).rests = rs := rfl
  have w1 : IntKind.wrap .i64 ((0 : Int) + 1) = 1 := rfl
  have ei : IntKind.wrap .i64 (IntKind.wrap .i64 ((off g r c + (k : Int)) * 1) + 0) = off g r c + (k : Int) := by
    rw [Int.mul_one, wr (a := off g r c + (k : Int)) (by omega) (by omega), Int.add_zero, wr (by omega) (by omega)]
  have hsp := t_split (ns := ns) (rs := rs) hK hb hn hs hml hql h
  have h2 : ∃ b', templeref6_Table_round.l6 K (tb g ns rs) ms qs (r : Int) (c : Int) (k : Int) 0 K (b, 0) = some (b', 1) ∧ ((b' = b ∧ ¬ CandB g rs ms qs r c k) ∨ (b' = b ++ [off g r c + (k : Int)] ∧ GdB g rs qs (off g r c + (k : Int)))) := by
    obtain ⟨K', rfl⟩ : ∃ q, K = q + 2 := ⟨K - 2, by omega⟩
    simp only [templeref6_Table_round.l6]
    rw [hw, hwd, hrt, if_pos (by decide), t_place hb h, Option.bind_some, t_span, Option.bind_some, ei, w1, if_pos (by omega), if_pos (by omega)]
    by_cases c1 : 0 < rd rs (off g r c + (k : Int))
    · rw [if_pos c1, if_pos (by omega)]
      by_cases c2 : rd qs (off g r c + (k : Int)) = 0
      · rw [if_pos c2, hsp, Option.bind_some]
        by_cases c3 : nextB g ms qs r c k = true
        · rw [if_pos c3, if_pos (by simp only [List.length_singleton]; omega), if_neg (by decide)]
          exact ⟨_, rfl, .inr ⟨rfl, ⟨by omega, by omega⟩, c1, c2⟩⟩
        · rw [if_neg c3, if_neg (by decide)]
          exact ⟨_, rfl, .inl ⟨rfl, fun h => c3 h.2.2⟩⟩
      · rw [if_neg c2, if_neg (by decide)]
        exact ⟨_, rfl, .inl ⟨rfl, fun h => c2 h.2.1⟩⟩
    · rw [if_neg c1, if_neg (by decide)]
      exact ⟨_, rfl, .inl ⟨rfl, fun h => c1 h.1⟩⟩
  obtain ⟨b', h3, h4⟩ := h2
  refine ⟨b', ?_, h4⟩
  obtain ⟨K', rfl⟩ : ∃ q, K = q + 2 := ⟨K - 2, by omega⟩
  simp only [templeref6_Table_round.l5]
  rw [hw, if_pos (by decide), h3, Option.bind_some]
  simp only
  rw [w1, if_neg (by decide)]
theorem ro_l4 {r c : Nat} (hr : r < g.Rules.length) (hc : c < (rd g.Rules (r : Int)).Conj.length) : ∀ (d k m : Nat) (b : List Int), k + d = (seqA g r c).length + 1 → d < m → b.length + d ≤ 1000000 → (∀ x ∈ b, GdB g rs qs x) →
    ∃ b', templeref6_Table_round.l4 K (tb g ns rs) ms qs (r : Int) (c : Int) m (b, (k : Int)) = some (b', (((seqA g r c).length + 1 : Nat) : Int)) ∧ (∀ x ∈ b', GdB g rs qs x) ∧ b'.length ≤ b.length + d ∧ (b' = [] → b = [] ∧ ∀ j, k ≤ j → j ≤ (seqA g r c).length → ¬ CandB g rs ms qs r c j)
  | 0, k, m, b, hk, hm, hbl, hg => by
    obtain ⟨m, rfl⟩ : ∃ q, m = q + 1 := ⟨m - 1, by omega⟩
    have hG : (tb g ns rs).G = g := rfl
    have hsl : ((rd (rd g.Rules (r : Int)).Conj (c : Int)).Seq.length : Int) = ((seqA g r c).length : Int) := rfl
    simp only [templeref6_Table_round.l4]
    rw [hG, hsl, if_pos (by omega), if_neg (by omega)]
    exact ⟨b, by congr 3 <;> omega, hg, by omega, fun h => ⟨h, fun j h1 h2 => by omega⟩⟩
  | d + 1, k, m, b, hk, hm, hbl, hg => by
    obtain ⟨m, rfl⟩ : ∃ q, m = q + 1 := ⟨m - 1, by omega⟩
    have hG : (tb g ns rs).G = g := rfl
    have hsl : ((rd (rd g.Rules (r : Int)).Conj (c : Int)).Seq.length : Int) = ((seqA g r c).length : Int) := rfl
    have h64 : (seqA g r c).length ≤ 64 := (hb.2 _ (rd_mem (xs := g.Rules) (i := (r : Int)) (by omega) (by omega))).2 _ (rd_mem (xs := (rd g.Rules (r : Int)).Conj) (i := (c : Int)) (by omega) (by omega))
    have hp : Pl g r c k := ⟨hr, hc, by show k ≤ (seqA g r c).length; omega⟩
    obtain ⟨b1, h1, h2⟩ := ro_l5 hK hb hn hs hnl hrl hml hql hp b (by omega)
    simp only [templeref6_Table_round.l4]
    rw [hG, hsl, if_pos (by omega), if_pos (by omega), h1, Option.bind_some, wr (by omega) (by omega)]
    simp only
    rcases h2 with ⟨rfl, h2⟩ | ⟨rfl, h2⟩
    · obtain ⟨b2, g1, g2, g3, g4⟩ := ro_l4 hr hc d (k + 1) m b1 (by omega) (by omega) (by omega) hg
      refine ⟨b2, g1, g2, by omega, fun h => ⟨(g4 h).1, fun j hj hjl => ?_⟩⟩
      rcases Nat.eq_or_lt_of_le hj with rfl | hj
      · exact h2
      · exact (g4 h).2 j hj hjl
    · obtain ⟨b2, g1, g2, g3, g4⟩ := ro_l4 hr hc d (k + 1) m (b ++ [off g r c + (k : Int)]) (by omega) (by omega) (by rw [List.length_append, List.length_singleton]; omega) (fun x hx => by
        rcases List.mem_append.1 hx with hx | hx
        · exact hg x hx
        · rw [List.mem_singleton] at hx; subst hx; exact h2)
      rw [List.length_append, List.length_singleton] at g3
      exact ⟨b2, g1, g2, by omega, fun h => by have := (g4 h).1; simp at this⟩
theorem ro_l3 {r : Nat} (hr : r < g.Rules.length) : ∀ (d c m : Nat) (b : List Int), c + d = (rd g.Rules (r : Int)).Conj.length → d < m → b.length + 65 * d ≤ 1000000 → (∀ x ∈ b, GdB g rs qs x) →
    ∃ b', templeref6_Table_round.l3 K (tb g ns rs) ms qs (r : Int) m (b, (c : Int)) = some (b', ((rd g.Rules (r : Int)).Conj.length : Int)) ∧ (∀ x ∈ b', GdB g rs qs x) ∧ b'.length ≤ b.length + 65 * d ∧ (b' = [] → b = [] ∧ ∀ c', c ≤ c' → c' < (rd g.Rules (r : Int)).Conj.length → ∀ j, j ≤ (seqA g r c').length → ¬ CandB g rs ms qs r c' j)
  | 0, c, m, b, hc, hm, hbl, hg => by
    obtain ⟨m, rfl⟩ : ∃ q, m = q + 1 := ⟨m - 1, by omega⟩
    have hG : (tb g ns rs).G = g := rfl
    simp only [templeref6_Table_round.l3]
    rw [hG, if_neg (by omega)]
    exact ⟨b, by congr 3 <;> omega, hg, by omega, fun h => ⟨h, fun c' h1 h2 => by omega⟩⟩
  | d + 1, c, m, b, hc, hm, hbl, hg => by
    obtain ⟨m, rfl⟩ : ∃ q, m = q + 1 := ⟨m - 1, by omega⟩
    have hG : (tb g ns rs).G = g := rfl
    have hrb := hb.2 _ (rd_mem (xs := g.Rules) (i := (r : Int)) (by omega) (by omega))
    have h8 := hrb.1
    have h64 : (seqA g r c).length ≤ 64 := hrb.2 _ (rd_mem (xs := (rd g.Rules (r : Int)).Conj) (i := (c : Int)) (by omega) (by omega))
    obtain ⟨b1, h1, h2, h3, h4⟩ := ro_l4 hK hb hn hs hnl hrl hml hql hr (show c < _ by omega) ((seqA g r c).length + 1) 0 K b (by omega) (by omega) (by omega) hg
    obtain ⟨b2, g1, g2, g3, g4⟩ := ro_l3 hr d (c + 1) m b1 (by omega) (by omega) (by omega) h2
    have h1' : templeref6_Table_round.l4 K (tb g ns rs) ms qs (r : Int) (c : Int) K (b, 0) = some (b1, (((seqA g r c).length + 1 : Nat) : Int)) := h1
    simp only [templeref6_Table_round.l3]
    rw [hG, if_pos (by omega), h1', Option.bind_some, wr (by omega) (by omega)]
    refine ⟨b2, g1, g2, by omega, fun h => ?_⟩
    obtain ⟨k1, k2⟩ := g4 h
    obtain ⟨k3, k4⟩ := h4 k1
    refine ⟨k3, fun c' hc' hcl j hj => ?_⟩
    rcases Nat.eq_or_lt_of_le hc' with rfl | hc'
    · exact k4 j (Nat.zero_le _) hj
    · exact k2 c' hc' hcl j hj
theorem ro_l0 {lv : Int → Int} (hlv : LvOk g.Names.length g.Rules lv) (hsx : SX g ns rs) (hrx : ∀ r, r < g.Rules.length → RX g ns rs r) : ∀ (d r m : Nat) (a b : List Int), r + d = g.Rules.length → d < m → a.length + d ≤ 1000 → b.length + 520 * d ≤ 1000000 → (∀ x ∈ a, GdA g ns ms x) → (∀ x ∈ b, GdB g rs qs x) →
    ∃ a' b', templeref6_Table_round.l0 K (tb g ns rs) ms qs m (b, a, (r : Int)) = some (b', a', (g.Rules.length : Int)) ∧ (∀ x ∈ a', GdA g ns ms x) ∧ (∀ x ∈ b', GdB g rs qs x) ∧ a'.length ≤ a.length + d ∧ b'.length ≤ b.length + 520 * d ∧ (a' = [] → b' = [] → a = [] ∧ b = [] ∧ ∀ r', r ≤ r' → r' < g.Rules.length → ¬ CandA g ns ms qs r' ∧ ∀ c, c < (rd g.Rules (r' : Int)).Conj.length → ∀ j, j ≤ (seqA g r' c).length → ¬ CandB g rs ms qs r' c j)
  | 0, r, m, a, b, hr, hm, hal, hbl, hga, hgb => by
    obtain ⟨m, rfl⟩ : ∃ q, m = q + 1 := ⟨m - 1, by omega⟩
    have hG : (tb g ns rs).G = g := rfl
    simp only [templeref6_Table_round.l0]
    rw [hG, if_neg (by omega)]
    exact ⟨a, b, by congr 4 <;> omega, hga, hgb, by omega, by omega, fun h1 h2 => ⟨h1, h2, fun r' h3 h4 => by omega⟩⟩
  | d + 1, r, m, a, b, hr, hm, hal, hbl, hga, hgb => by
    obtain ⟨m, rfl⟩ : ∃ q, m = q + 1 := ⟨m - 1, by omega⟩
    have hG : (tb g ns rs).G = g := rfl
    have h256 := hb.1
    have hrl' : r < g.Rules.length := by omega
    have h8 := (hb.2 _ (rd_mem (xs := g.Rules) (i := (r : Int)) (by omega) (by omega))).1
    obtain ⟨a1, h1, h2⟩ := ro_l1 hK hb hn hs hnl hrl hml hql hlv hsx hrl' (hrx r hrl') a (by omega)
    obtain ⟨b1, h3, h4, h5, h6⟩ := ro_l3 hK hb hn hs hnl hrl hml hql hrl' (rd g.Rules (r : Int)).Conj.length 0 K b (by omega) (by omega) (by omega) hgb
    have h3' : templeref6_Table_round.l3 K (tb g ns rs) ms qs (r : Int) K (b, 0) = some (b1, ((rd g.Rules (r : Int)).Conj.length : Int)) := h3
    have ha1 : (∀ x ∈ a1, GdA g ns ms x) ∧ a1.length ≤ a.length + 1 ∧ (a1 = [] → a = [] ∧ ¬ CandA g ns ms qs r) := by
      rcases h2 with ⟨rfl, h⟩ | ⟨rfl, h⟩
      · exact ⟨hga, by omega, fun h' => ⟨h', h⟩⟩
      · refine ⟨fun x hx => ?_, by rw [List.length_append, List.length_singleton]; exact Nat.le_refl _, fun h' => by simp at h'⟩
        rcases List.mem_append.1 hx with hx | hx
        · exact hga x hx
        · rw [List.mem_singleton] at hx; subst hx; exact h
    obtain ⟨k1, k2, k3⟩ := ha1
    obtain ⟨a2, b2, g1, g2, g3, g4, g5, g6⟩ := ro_l0 hlv hsx hrx d (r + 1) m a1 b1 (by omega) (by omega) (by omega) (by omega) k1 h4
    simp only [templeref6_Table_round.l0]
    rw [hG, if_pos (by omega), if_pos (by omega), h1, Option.bind_some]
    simp only
    rw [h3', Option.bind_some, wr (by omega) (by omega)]
    refine ⟨a2, b2, g1, g2, g3, by omega, by omega, fun e1 e2 => ?_⟩
    obtain ⟨q1, q2, q3⟩ := g6 e1 e2
    obtain ⟨q4, q5⟩ := k3 q1
    obtain ⟨q6, q7⟩ := h6 q2
    refine ⟨q4, q6, fun r' hr' hrl2 => ?_⟩
    rcases Nat.eq_or_lt_of_le hr' with rfl | hr'
    · exact ⟨q5, fun c hc j hj => q7 c (Nat.zero_le _) hc j hj⟩
    · exact q3 r' hr' hrl2
end
end Go.Proofs.Ytflbjhfklhidjaa

/-! PTabF -/
namespace Go.Proofs.Ytflbjhfklhidjaa
open S Go.Sort
set_option linter.unusedVariables false
set_option linter.unusedSimpArgs false
set_option linter.unusedSectionVars false
set_option maxRecDepth 100000

theorem markLoop {v : Int} {l : List Int} {L : Nat → List Int × Int → Option (List Int × Int)} (step : ∀ (m : Nat) (s : List Int) (i : Nat), i < l.length → 0 ≤ rd l (i : Int) → rd l (i : Int) < s.length → L (m + 1) (s, (i : Int)) = L m (s.set (rd l (i : Int)).toNat v, (i : Int) + 1)) (stop : ∀ m s, L (m + 1) (s, (l.length : Int)) = some (s, (l.length : Int))) :
    ∀ (d i m : Nat) (xs : List Int), i + d = l.length → d < m → (∀ x ∈ l, 0 ≤ x ∧ x < xs.length) → ∃ xs', L m (xs, (i : Int)) = some (xs', (l.length : Int)) ∧ xs'.length = xs.length ∧ ∀ x : Int, 0 ≤ x → x < xs.length → (x ∈ l.drop i → rd xs' x = v) ∧ (x ∉ l.drop i → rd xs' x = rd xs x)
  | 0, i, m, xs, hi, hm, hx => by
    obtain ⟨m, rfl⟩ : ∃ q, m = q + 1 := ⟨m - 1, by omega⟩
    have : i = l.length := by omega
    subst this
    refine ⟨xs, stop m xs, rfl, fun x _ _ => ⟨fun h => ?_, fun _ => rfl⟩⟩
    rw [List.drop_length] at h; cases h
  | d + 1, i, m, xs, hi, hm, hx => by
    obtain ⟨m, rfl⟩ : ∃ q, m = q + 1 := ⟨m - 1, by omega⟩
    have hil : i < l.length := by omega
    have hm' := rd_mem (xs := l) (i := (i : Int)) (by omega) (by omega)
    obtain ⟨h0, h1⟩ := hx _ hm'
    have e : l.drop i = rd l (i : Int) :: l.drop (i + 1) := by
      rw [List.drop_eq_getElem_cons hil, rd_nat, List.getD_eq_getElem?_getD, List.getElem?_eq_getElem hil]; rfl
    obtain ⟨xs', g1, g2, g3⟩ := markLoop step stop d (i + 1) m (xs.set (rd l (i : Int)).toNat v) (by omega) (by omega) (fun x h => by rw [List.length_set]; exact hx x h)
    rw [List.length_set] at g2 g3
    refine ⟨xs', ?_, g2, fun x a b => ?_⟩
    · rw [step m xs i hil h0 h1]; exact g1
    · obtain ⟨k1, k2⟩ := g3 x a b
      rw [e]
      by_cases c : x ∈ l.drop (i + 1)
      · exact ⟨fun _ => k1 c, fun h => absurd (.tail _ c) h⟩
      · rw [k2 c, rdi_set _ h0 h1 a]
        refine ⟨fun h => ?_, fun h => ?_⟩
        · rcases List.mem_cons.1 h with rfl | h
          · rw [if_pos rfl]
          · exact absurd h c
        · rw [if_neg (fun e => h (by rw [e]; exact .head _))]
def cz (n : Nat) (xs : List Int) : Nat := (List.range n).countP fun i : Nat => decide (¬ 0 < rd xs (i : Int))
theorem cz_len (n : Nat) (xs : List Int) : cz n xs ≤ n := by
  unfold cz
  have := List.countP_le_length (p := fun i : Nat => decide (¬ 0 < rd xs (i : Int))) (l := List.range n)
  simpa using this
theorem cz_le {n : Nat} {xs ys : List Int} (h : ∀ x : Int, 0 ≤ x → x < n → 0 < rd xs x → 0 < rd ys x) : cz n ys ≤ cz n xs := by
  unfold cz
  refine List.countP_mono_left fun i hi hp => ?_
  rw [List.mem_range] at hi
  rw [decide_eq_true_eq] at hp ⊢
  exact fun h2 => hp (h (i : Int) (by omega) (by omega) h2)
theorem cz_lt {n : Nat} {xs ys : List Int} (h : ∀ x : Int, 0 ≤ x → x < n → 0 < rd xs x → 0 < rd ys x) {x : Int} (h0 : 0 ≤ x) (h1 : x < n) (hx : ¬ 0 < rd xs x) (hy : 0 < rd ys x) : cz n ys < cz n xs := by
  unfold cz
  refine countP_lt (fun i hi hp => ?_) ⟨x.toNat, List.mem_range.2 (by omega), ?_, ?_⟩
  · rw [List.mem_range] at hi
    rw [decide_eq_true_eq] at hp ⊢
    exact fun h2 => hp (h (i : Int) (by omega) (by omega) h2)
  · rw [decide_eq_true_eq, Int.toNat_of_nonneg h0]; exact hx
  · rw [decide_eq_false_iff_not, Int.toNat_of_nonneg h0, Decidable.not_not]; exact hy
/-- Ranks so far. -/
structure RK (g : Grammar) (ns ms qs : List Int) : Prop where
  ml : ms.length = g.Names.length
  ql : (qs.length : Int) = total_ g
  mp : ∀ x : Int, 0 ≤ x → x < g.Names.length → rd ms x = 0 ∨ 0 < rd ms x
  qp : ∀ x : Int, 0 ≤ x → x < total_ g → rd qs x = 0 ∨ 0 < rd qs x
  so : ∀ x : Int, 0 ≤ x → x < g.Names.length → 0 < rd ms x → 0 < rd ns x
def Fixd (g : Grammar) (ns rs ms qs : List Int) : Prop := ∀ r, r < g.Rules.length → ¬ CandA g ns ms qs r ∧ ∀ c, c < (rd g.Rules (r : Int)).Conj.length → ∀ j, j ≤ (seqA g r c).length → ¬ CandB g rs ms qs r c j
section
variable {K : Nat} {g : Grammar} {ns rs : List Int} {lv : Int → Int} (hK : 2000000 ≤ K) (hb : Bd g) (hn : g.Names.length ≤ 64) (hs : NmOk g) (hlv : LvOk g.Names.length g.Rules lv) (hT : TI g lv ((g.Names.length : Int) + 1) ns rs) (hlt : ∀ y : Int, 0 ≤ y → y < g.Names.length → 0 ≤ lv y ∧ lv y ≤ (g.Names.length : Int) - 1)
include hK hb hn hs hlv hT hlt
theorem rx_all (r : Nat) (hr : r < g.Rules.length) : RX g ns rs r := by
  obtain ⟨⟨a, b⟩, _⟩ := hlv _ (rd_mem (xs := g.Rules) (i := (r : Int)) (by omega) (by omega))
  exact hT.rx r hr (by have := (hlt _ a b).2; omega)
theorem round_spec {ms qs : List Int} (h : RK g ns ms qs) : ∃ a b, templeref6_Table_round K (tb g ns rs) ms qs = some (a, b) ∧ (∀ x ∈ a, GdA g ns ms x) ∧ (∀ x ∈ b, GdB g rs qs x) ∧ a.length ≤ 1000 ∧ b.length ≤ 1000000 ∧ (a = [] → b = [] → Fixd g ns rs ms qs) := by
  have h256 := hb.1
  obtain ⟨a, b, g1, g2, g3, g4, g5, g6⟩ := ro_l0 (K := K) (by omega) hb hn hs hT.nl hT.rl h.ml h.ql hlv hT.sx (rx_all hK hb hn hs hlv hT hlt) g.Rules.length 0 K [] [] (by omega) (by omega) (by simp only [List.length_nil]; omega) (by simp only [List.length_nil]; omega) (fun x hx => by cases hx) (fun x hx => by cases hx)
  simp only [List.length_nil] at g4 g5
  have g1' : templeref6_Table_round.l0 K (tb g ns rs) ms qs K (([] : List Int), ([] : List Int), 0) = some (b, a, (g.Rules.length : Int)) := g1
  refine ⟨a, b, ?_, g2, g3, by omega, by omega, fun e1 e2 r hr => (g6 e1 e2).2.2 r (Nat.zero_le _) hr⟩
  unfold templeref6_Table_round
  rw [g1']
  rfl
theorem rank_l0 : ∀ (d m : Nat) (ms qs : List Int) (round : Int), cz g.Names.length ms + cz (total_ g).toNat qs ≤ d → d < m → RK g ns ms qs → 1 ≤ round → round + (d : Int) ≤ 1000000 → ∃ ms' qs' rd', templeref6_Table_rank.l0 K (tb g ns rs) m (ms, qs, round) = some (ms', qs', rd') ∧ RK g ns ms' qs' ∧ Fixd g ns rs ms' qs'
  | d, m, ms, qs, round, hd, hm, h, hr1, hr2 => by
    obtain ⟨m, rfl⟩ : ∃ q, m = q + 1 := ⟨m - 1, by omega⟩
    have h7 := total_le hb
    obtain ⟨a, b, g1, g2, g3, g4, g5, g6⟩ := round_spec hK hb hn hs hlv hT hlt h
    have e0 : (⟨⟨(tb g ns rs).G.Start, (tb g ns rs).G.Names, (tb g ns rs).G.Rules⟩, (tb g ns rs).W, (tb g ns rs).wide, (tb g ns rs).names, (tb g ns rs).conj, (tb g ns rs).rests⟩ : Templeref6_Table) = tb g ns rs := rfl
    simp only [templeref6_Table_rank.l0]
    rw [e0, g1, Option.bind_some]
    simp only
    rw [wr (a := (a.length : Int) + (b.length : Int)) (by omega) (by omega)]
    by_cases c : (a.length : Int) + (b.length : Int) = 0
    · rw [if_pos c]
      exact ⟨ms, qs, round, rfl, h, g6 (List.eq_nil_of_length_eq_zero (by omega)) (List.eq_nil_of_length_eq_zero (by omega))⟩
    · rw [if_neg c]
      obtain ⟨ms1, k1, k2, k3⟩ := markLoop (v := round) (l := a) (L := templeref6_Table_rank.l1 K round (a, b)) (fun m s i hi h0 h1 => by
        simp only [templeref6_Table_rank.l1]
        rw [if_pos (by omega), if_pos (by omega), if_pos h0, if_pos h1, wr (a := (i : Int) + 1) (by omega) (by omega)]) (fun m s => by simp only [templeref6_Table_rank.l1]; rw [if_neg (by omega)]) a.length 0 K ms (by omega) (by omega) (fun x hx => by have := (g2 x hx).1; have := h.ml; omega)
      obtain ⟨qs1, l1, l2, l3⟩ := markLoop (v := round) (l := b) (L := templeref6_Table_rank.l2 K round (a, b)) (fun m s i hi h0 h1 => by
        simp only [templeref6_Table_rank.l2]
        rw [if_pos (by omega), if_pos (by omega), if_pos h0, if_pos h1, wr (a := (i : Int) + 1) (by omega) (by omega)]) (fun m s => by simp only [templeref6_Table_rank.l2]; rw [if_neg (by omega)]) b.length 0 K qs (by omega) (by omega) (fun x hx => by have := (g3 x hx).1; have := h.ql; omega)
      rw [List.drop_zero] at k3 l3
      have k1' : templeref6_Table_rank.l1 K round (a, b) K (ms, 0) = some (ms1, (a.length : Int)) := k1
      have l1' : templeref6_Table_rank.l2 K round (a, b) K (qs, 0) = some (qs1, (b.length : Int)) := l1
      have hql := h.ql
      have hml := h.ml
      have upm : ∀ x : Int, 0 ≤ x → x < g.Names.length → 0 < rd ms x → 0 < rd ms1 x := fun x p q hx => by
        by_cases cx : x ∈ a
        · rw [(k3 x p (by omega)).1 cx]; omega
        · rw [(k3 x p (by omega)).2 cx]; exact hx
      have upq : ∀ x : Int, 0 ≤ x → x < ((total_ g).toNat : Int) → 0 < rd qs x → 0 < rd qs1 x := fun x p q hx => by
        by_cases cx : x ∈ b
        · rw [(l3 x p (by omega)).1 cx]; omega
        · rw [(l3 x p (by omega)).2 cx]; exact hx
      have hR : RK g ns ms1 qs1 := by
        refine ⟨by omega, by omega, fun x p q => ?_, fun x p q => ?_, fun x p q hx => ?_⟩
        · by_cases cx : x ∈ a
          · rw [(k3 x p (by omega)).1 cx]; exact .inr (by omega)
          · rw [(k3 x p (by omega)).2 cx]; exact h.mp x p q
        · by_cases cx : x ∈ b
          · rw [(l3 x p (by omega)).1 cx]; exact .inr (by omega)
          · rw [(l3 x p (by omega)).2 cx]; exact h.qp x p q
        · by_cases cx : x ∈ a
          · exact (g2 x cx).2.1
          · rw [(k3 x p (by omega)).2 cx] at hx; exact h.so x p q hx
      have hless : cz g.Names.length ms1 + cz (total_ g).toNat qs1 < cz g.Names.length ms + cz (total_ g).toNat qs := by
        have m1 := cz_le upm
        have m2 := cz_le upq
        by_cases ca : a = []
        · obtain ⟨x, hx⟩ : ∃ x, x ∈ b := by
            cases b with
            | nil => subst ca; simp at c
            | cons y ys => exact ⟨y, .head _⟩
          obtain ⟨⟨p, q⟩, _, z⟩ := g3 x hx
          have := cz_lt upq p (show x < ((total_ g).toNat : Int) by omega) (by omega) (by rw [(l3 x p (by omega)).1 hx]; omega)
          omega
        · obtain ⟨x, hx⟩ : ∃ x, x ∈ a := by
            cases a with
            | nil => exact absurd rfl ca
            | cons y ys => exact ⟨y, .head _⟩
          obtain ⟨⟨p, q⟩, _, z⟩ := g2 x hx
          have := cz_lt upm p q (by omega) (by rw [(k3 x p (by omega)).1 hx]; omega)
          omega
      rw [k1', Option.bind_some]
      simp only
      rw [l1', Option.bind_some, wr (a := round + 1) (by omega) (by omega)]
      cases d with
      | zero => omega
      | succ d => exact rank_l0 d m ms1 qs1 (round + 1) (by omega) (by omega) hR (by omega) (by push_cast at hr2; omega)
theorem fixd_has {ms qs : List Int} (h : RK g ns ms qs) (hf : Fixd g ns rs ms qs) : ∀ (t : Nat) (y : Int), 0 ≤ y → y < g.Names.length → lv y < t → 0 < rd ns y → 0 < rd ms y := by
  have hnl := hT.nl
  have hml := h.ml
  intro t
  induction t with
  | zero => intro y a b c _; have := (hlt y a b).1; omega
  | succ t ih =>
    intro y a b c hy
    by_cases c2 : lv y < t
    · exact ih y a b c2 hy
    have e : lv y = t := by omega
    have hag : ∀ z : Int, 0 ≤ z → z < g.Names.length → lv z < (t : Int) → rd (hsN ms) z = rd (hsN ns) z := fun z p q hz => by
      rw [hsN_rd p (by omega), hsN_rd p (by omega)]
      by_cases cz' : 0 < rd ns z
      · rw [decide_eq_true cz', decide_eq_true (ih z p q hz cz')]
      · rw [decide_eq_false cz', decide_eq_false fun h2 => cz' (h.so z p q h2)]
    have hsub : ∀ z : Int, 0 ≤ z → z < g.Names.length → rd (hsN ms) z = true → rd (hsN ns) z = true := fun z p q hz => by
      rw [hsN_rd p (by omega), decide_eq_true_eq] at hz ⊢
      exact h.so z p q hz
    have := hT.ri.d (t : Int) (hsN ms) hag (fun r hr hrt hh => ?_) y a b e (by rw [hsN_rd a (by omega), decide_eq_true hy])
    · rw [hsN_rd a (by omega), decide_eq_true_eq] at this; exact this
    · obtain ⟨i, hi, rfl⟩ := List.getElem_of_mem hr
      have er : rd g.Rules (i : Int) = g.Rules[i] := by rw [rd_nat, List.getD_eq_getElem?_getD, List.getElem?_eq_getElem hi]; rfl
      rw [← er] at hr hrt hh ⊢
      obtain ⟨⟨a0, a1⟩, _⟩ := hlv _ hr
      have hh2 : holdsR (hsN ns) (rd g.Rules (i : Int)) = true := holds_mono hlv hr (t := (t : Int)) (by omega) hag (fun z p q _ hz => hsub z p q hz) hh
      have hns : 0 < rd ns (rd g.Rules (i : Int)).Head := by
        have := hT.ri.c _ hr (by have := (hlt _ a0 a1).2; omega) hh2
        rw [hsN_rd a0 (by omega), decide_eq_true_eq] at this; exact this
      rw [hsN_rd a0 (by omega), decide_eq_true_eq]
      refine Classical.byContradiction fun hno => ?_
      have hm0 : rd ms (rd g.Rules (i : Int)).Head = 0 := (h.mp _ a0 a1).resolve_right hno
      refine (hf i hi).1 ⟨hns, hm0, hh2, fun c hc hneg hq0 => ?_⟩
      -- a conjunct that is not negated: all its rests have ranks
      have hcm := rd_mem (xs := (rd g.Rules (i : Int)).Conj) (i := (c : Int)) (by omega) (by omega)
      have he : emptyC (hsN ms) (rd (rd g.Rules (i : Int)).Conj (c : Int)) = true := by
        have h3 := hh
        unfold holdsR at h3
        rw [List.all_eq_true] at h3
        have h4 := h3 _ hcm
        rw [hneg] at h4
        simpa using h4
      have hsuf := (empty_suf hml hs hi hc).1 he
      have hdown : ∀ (d k : Nat), k + d = (seqA g i c).length → 0 < rd qs (off g i c + (k : Int)) := by
        intro d
        induction d with
        | zero =>
          intro k hk
          have hp : Pl g i c k := ⟨hi, hc, by show k ≤ (seqA g i c).length; omega⟩
          have h6 := off_in hp
          refine (h.qp _ (by omega) h6.2).resolve_left fun h0 => ?_
          refine (hf i hi).2 c hc k (by omega) ⟨?_, h0, next_suf hp (fun j hj hjl => by omega) fun hlt2 => by omega⟩
          exact rx_all hK hb hn hs hlv hT hlt i hi c k hp (fun j hj hjl => by omega)
        | succ d ihd =>
          intro k hk
          have hp : Pl g i c k := ⟨hi, hc, by show k ≤ (seqA g i c).length; omega⟩
          have h6 := off_in hp
          refine (h.qp _ (by omega) h6.2).resolve_left fun h0 => ?_
          have hsk : Suf g ms i c k := fun j hj hjl => hsuf j (Nat.zero_le _) hjl
          refine (hf i hi).2 c hc k (by omega) ⟨?_, h0, next_suf hp hsk fun _ => ihd (k + 1) (by omega)⟩
          exact rx_all hK hb hn hs hlv hT hlt i hi c k hp (hsk.mono hs hi hc h.so)
      have := hdown (seqA g i c).length 0 (by omega)
      have e2 : off g i c + ((0 : Nat) : Int) = off g i c := by omega
      rw [e2, hq0] at this
      omega
theorem rank_spec : ∃ ms qs, templeref6_Table_rank K (tb g ns rs) = some (tb g ms qs) ∧ ms.length = g.Names.length ∧ ∀ x : Int, 0 ≤ x → x < g.Names.length → (0 < rd ms x ↔ 0 < rd ns x) := by
  have h7 := total_le hb
  have hnl := hT.nl
  have hrl := hT.rl
  have hR0 : RK g ns (List.replicate ns.length 0) (List.replicate rs.length 0) := ⟨by simp [hnl], by simp [hrl], fun x p q => .inl (rdi_rep _ p (by omega)), fun x p q => .inl (rdi_rep _ p (by omega)), fun x p q hx => by rw [rdi_rep _ p (by omega)] at hx; omega⟩
  have c1 := cz_len g.Names.length (List.replicate ns.length 0)
  have c2 := cz_len (total_ g).toNat (List.replicate rs.length 0)
  obtain ⟨ms, qs, rd', g1, g2, g3⟩ := rank_l0 hK hb hn hs hlv hT hlt (cz g.Names.length (List.replicate ns.length 0) + cz (total_ g).toNat (List.replicate rs.length 0)) K _ _ 1 (Nat.le_refl _) (by omega) hR0 (by omega) (by omega)
  refine ⟨ms, qs, ?_, g2.ml, fun x p q => ⟨g2.so x p q, fixd_has hK hb hn hs hlv hT hlt g2 g3 (lv x + 1).toNat x p q (by have := (hlt x p q).1; omega)⟩⟩
  have hnm : (tb g ns rs).names = ns := rfl
  have hrt : (tb g ns rs).rests = rs := rfl
  unfold templeref6_Table_rank
  rw [hnm, hrt, if_pos (by omega), if_pos (by omega), Option.bind_some, Int.toNat_natCast, Int.toNat_natCast, g1]
  rfl
end
end Go.Proofs.Ytflbjhfklhidjaa

/-! PTabG -/
namespace Go.Proofs.Ytflbjhfklhidjaa
open S Go.Sort
set_option linter.unusedVariables false
set_option linter.unusedSimpArgs false
set_option linter.unusedSectionVars false
set_option maxRecDepth 100000

theorem drop_rd {T : Type} [Inhabited T] {xs : List T} {i : Nat} (h : i < xs.length) : xs.drop i = rd xs (i : Int) :: xs.drop (i + 1) := by
  rw [List.drop_eq_getElem_cons h, rd_nat, List.getD_eq_getElem?_getD, List.getElem?_eq_getElem h]; rfl
theorem nt_l1 (K : Nat) (g : Grammar) (i : Nat) (h8 : (rd g.Rules (i : Int)).Conj.length ≤ 8) : ∀ (d j m : Nat) (acc : List Int) (q : Int), j + d = (rd g.Rules (i : Int)).Conj.length → d < m → acc.length + d ≤ 1000 → 0 ≤ q → endC q ((rd g.Rules (i : Int)).Conj.drop j) ≤ 200000 →
    templeref6_NewTable.l1 K g (i : Int) m (acc, q, (j : Int)) = some (acc ++ offC q ((rd g.Rules (i : Int)).Conj.drop j), endC q ((rd g.Rules (i : Int)).Conj.drop j), ((rd g.Rules (i : Int)).Conj.length : Int))
  | 0, j, m, acc, q, hj, hm, hl, hq, he => by
    obtain ⟨m, rfl⟩ : ∃ q, m = q + 1 := ⟨m - 1, by omega⟩
    have : j = (rd g.Rules (i : Int)).Conj.length := by omega
    subst this
    simp only [templeref6_NewTable.l1]
    rw [if_pos (by omega), if_neg (by omega), List.drop_length, offC, endC, List.append_nil]
  | d + 1, j, m, acc, q, hj, hm, hl, hq, he => by
    obtain ⟨m, rfl⟩ : ∃ q, m = q + 1 := ⟨m - 1, by omega⟩
    rw [drop_rd (show j < _ by omega), endC] at he
    have h1 := endC_ge ((rd g.Rules (i : Int)).Conj.drop (j + 1)) (q + ((rd (rd g.Rules (i : Int)).Conj (j : Int)).Seq.length : Int) + 1)
    have ih := nt_l1 K g i h8 d (j + 1) m (acc ++ [q]) (q + ((rd (rd g.Rules (i : Int)).Conj (j : Int)).Seq.length : Int) + 1) (by omega) (by omega) (by rw [List.length_append, List.length_singleton]; omega) (by omega) he
    simp only [templeref6_NewTable.l1, List.length_singleton]
    rw [if_pos (by omega), if_pos (by omega), if_pos (by omega), if_pos (by omega), wr (a := q + _) (by omega) (by omega), wr (a := q + _ + 1) (by omega) (by omega), wr (a := (j : Int) + 1) (by omega) (by omega), drop_rd (show j < _ by omega), offC, endC]
    rw [List.append_assoc] at ih
    exact ih
theorem nt_l0 (K : Nat) (hK : 1000 ≤ K) (g : Grammar) (hb : Bd g) : ∀ (d i m : Nat) (acc : List (List Int)) (q : Int), i + d = g.Rules.length → d < m → acc.length + d ≤ 1000 → 0 ≤ q → endR q (g.Rules.drop i) ≤ 200000 →
    templeref6_NewTable.l0 K g m (acc, q, (i : Int)) = some (acc ++ offR q (g.Rules.drop i), endR q (g.Rules.drop i), (g.Rules.length : Int))
  | 0, i, m, acc, q, hi, hm, hl, hq, he => by
    obtain ⟨m, rfl⟩ : ∃ q, m = q + 1 := ⟨m - 1, by omega⟩
    have : i = g.Rules.length := by omega
    subst this
    simp only [templeref6_NewTable.l0]
    rw [if_neg (by omega), List.drop_length, offR, endR, List.append_nil]
  | d + 1, i, m, acc, q, hi, hm, hl, hq, he => by
    obtain ⟨m, rfl⟩ : ∃ q, m = q + 1 := ⟨m - 1, by omega⟩
    have h256 := hb.1
    have h8 := (hb.2 _ (rd_mem (xs := g.Rules) (i := (i : Int)) (by omega) (by omega))).1
    rw [drop_rd (show i < _ by omega), endR] at he
    have h1 := endR_ge (g.Rules.drop (i + 1)) (endC q (rd g.Rules (i : Int)).Conj)
    have h2 := endC_ge (rd g.Rules (i : Int)).Conj q
    have ih := nt_l0 K hK g hb d (i + 1) m (acc ++ [offC q (rd g.Rules (i : Int)).Conj]) (endC q (rd g.Rules (i : Int)).Conj) (by omega) (by omega) (by rw [List.length_append, List.length_singleton]; omega) (by omega) he
    have h3 := nt_l1 K g i h8 (rd g.Rules (i : Int)).Conj.length 0 K [] q (by omega) (by omega) (by simp only [List.length_nil]; omega) hq (by rw [List.drop_zero]; omega)
    rw [List.drop_zero, List.nil_append] at h3
    have h3' : templeref6_NewTable.l1 K g (i : Int) K (([] : List Int), q, 0) = some (offC q (rd g.Rules (i : Int)).Conj, endC q (rd g.Rules (i : Int)).Conj, ((rd g.Rules (i : Int)).Conj.length : Int)) := h3
    simp only [templeref6_NewTable.l0]
    rw [if_pos (by omega), h3', Option.bind_some]
    simp only [List.length_singleton]
    rw [if_pos (by omega), wr (a := (i : Int) + 1) (by omega) (by omega), drop_rd (show i < _ by omega), offR, endR]
    rw [List.append_assoc] at ih
    exact ih
abbrev StN := (List Int) × (List Int) × Int × (List ByteArray) × (List Rule) × ByteArray × Int × (List (List Int)) × Int
def sN (g : Grammar) (ns rs : List Int) (u : Int) : StN := (rs, ns, g.Start, g.Names, g.Rules, ⟨#[]⟩, 1, cjs g, u)
section
variable {K : Nat} {g : Grammar} {xs : List Int} (hK : 2000000 ≤ K) (hb : Bd g) (hn : g.Names.length ≤ 64) (hs : NmOk g) (hx : xs.length = g.Names.length) (hlv : LvOk g.Names.length g.Rules (rd xs))
theorem n2_step (m : Nat) (p : List Int × Int) (ns rs : List Int) (u : Int) : templeref6_NewTable.l2 K g (xs, p) (m + 1) (sN g ns rs u) = if u ≤ (g.Names.length : Int) then (templeref6_Table_fill K (tb g ns rs) xs u).bind fun r_45 => templeref6_NewTable.l2 K g (xs, p) m (r_45.rests, r_45.names, r_45.G.Start, r_45.G.Names, r_45.G.Rules, r_45.W, r_45.wide, r_45.conj, IntKind.wrap .i64 (u + 1)) else some (sN g ns rs u) := rfl
include hK hb hn hs hx hlv in
theorem n2_spec (p : List Int × Int) : ∀ (d u m : Nat) (ns rs : List Int), u + d = g.Names.length + 1 → d < m → TI g (rd xs) (u : Int) ns rs → ∃ ns' rs', templeref6_NewTable.l2 K g (xs, p) m (sN g ns rs (u : Int)) = some (sN g ns' rs' ((g.Names.length : Int) + 1)) ∧ TI g (rd xs) ((g.Names.length : Int) + 1) ns' rs'
  | 0, u, m, ns, rs, hu, hm, hT => by
    obtain ⟨m, rfl⟩ : ∃ q, m = q + 1 := ⟨m - 1, by omega⟩
    have e : (u : Int) = (g.Names.length : Int) + 1 := by omega
    rw [n2_step, if_neg (by omega), e]
    rw [e] at hT
    exact ⟨ns, rs, rfl, hT⟩
  | d + 1, u, m, ns, rs, hu, hm, hT => by
    obtain ⟨m, rfl⟩ : ∃ q, m = q + 1 := ⟨m - 1, by omega⟩
    obtain ⟨ns1, rs1, g1, g2⟩ := fill_spec (K := K) (by omega) hb hn hs hx hlv hT
    have e : (u : Int) + 1 = ((u + 1 : Nat) : Int) := by omega
    rw [n2_step, if_pos (by omega), g1, Option.bind_some, wr (a := (u : Int) + 1) (by omega) (by omega), e]
    rw [e] at g2
    exact n2_spec p d (u + 1) m ns1 rs1 (by omega) (by omega) g2
end
theorem nm_ok {g : Grammar} (hm : mayP g) : NmOk g := fun q hq d hd s hs h0 => by
  have := occ_bounds hm (e := eOf q d s) ⟨q, hq, d, hd, s, hs, h0, rfl⟩
  exact this.2.2.2
theorem NewTable_ok (K : Nat) (hK : 2000000 ≤ K) (g : Grammar) (hm : mayP g) (xs : List Int) (hno : ∀ e ∈ edgesOf g, ¬ Cyc (edgesOf g) e) (hx : Lev g.Names.length (edgesOf g) xs) (h1 : templeref6_Strata K g = some (xs, [], 0)) :
    ∃ ms qs, templeref6_NewTable K g (⟨#[]⟩ : ByteArray) = some (some (tb g ms qs), 0) ∧ ms.length = g.Names.length ∧ PM g.Names.length g.Rules (rd xs) (hsN ms) := by
  have hb := may_bd hm
  have hn := hm.1.2.1
  have hs := nm_ok hm
  have hxl := hx.1.1
  have hlv := lv_ok hm hx
  have h7 := total_le hb
  have h256 := hb.1
  obtain ⟨P, p1, p2, p3⟩ := pot_of hm hno
  have hlt : ∀ y : Int, 0 ≤ y → y < g.Names.length → 0 ≤ rd xs y ∧ rd xs y ≤ (g.Names.length : Int) - 1 := fun y a b => ⟨hx.1.2.1 y a b, by have := hx.1.2.2 P p1 p2 y a b; have := p3 y a b; omega⟩
  have h0 := nt_l0 K (by omega) g hb g.Rules.length 0 K [] 0 (by omega) (by omega) (by simp only [List.length_nil]; omega) (Int.le_refl _) (by rw [List.drop_zero]; show total_ g ≤ _; omega)
  rw [List.drop_zero, List.nil_append] at h0
  have h0' : templeref6_NewTable.l0 K g K (([] : List (List Int)), 0, 0) = some (cjs g, total_ g, (g.Rules.length : Int)) := h0
  have hzn : ∀ x : Int, 0 ≤ x → x < g.Names.length → rd (hsN (List.replicate g.Names.length (0 : Int))) x = false := fun x a b => by
    rw [hsN_rd a (by rw [List.length_replicate]; exact b), rdi_rep _ a b]; rfl
  have hT0 : TI g (rd xs) ((0 : Nat) : Int) (List.replicate g.Names.length 0) (List.replicate (total_ g).toNat 0) := by
    refine ⟨by simp, by simp; omega, ⟨by simp [hsN], fun x a b h => (by rw [hzn x a b] at h; cases h), fun x a b h => (by rw [hzn x a b] at h; cases h), fun r hr ht _ => ?_, fun t M _ _ y a b _ hy => (by rw [hzn y a b] at hy; cases hy)⟩, fun r c k hp h => ?_, fun r hr ht => ?_⟩
    · obtain ⟨⟨a, b⟩, _⟩ := hlv r hr
      have := (hlt r.Head a b).1; omega
    · have h6 := off_in hp
      rw [rdi_rep _ (by omega) (by omega)] at h; omega
    · obtain ⟨⟨a, b⟩, _⟩ := hlv _ (rd_mem (xs := g.Rules) (i := (r : Int)) (by omega) (by omega))
      have := (hlt _ a b).1; omega
  obtain ⟨ns, rs, g1, g2⟩ := n2_spec hK hb hn hs hxl hlv ([], 0) (g.Names.length + 1) 0 K _ _ (by omega) (by omega) hT0
  obtain ⟨ms, qs, g3, g4, g5⟩ := rank_spec hK hb hn hs hlv g2 hlt
  refine ⟨ms, qs, ?_, g4, ?_⟩
  · have e1 : IntKind.wrap .i64 ((IntKind.wrap .i64 (((⟨#[]⟩ : ByteArray).size : Int) + 1)) * (IntKind.wrap .i64 (((⟨#[]⟩ : ByteArray).size : Int) + 1))) = 1 := rfl
    have g1' : templeref6_NewTable.l2 K g (xs, [], 0) K (List.replicate (total_ g).toNat (0 : Int), List.replicate g.Names.length (0 : Int), g.Start, g.Names, g.Rules, (⟨#[]⟩ : ByteArray), 1, cjs g, 0) = some (sN g ns rs ((g.Names.length : Int) + 1)) := g1
    unfold templeref6_NewTable
    rw [h1, Option.bind_some, if_neg (fun h => h rfl), if_neg (by decide), h0', Option.bind_some]
    simp only
    rw [e1, Int.mul_one, Int.mul_one, wr (a := (g.Names.length : Int)) (by omega) (by omega), wr (a := total_ g) (by omega) (by omega), if_pos (by omega), if_pos (by omega), if_pos (by omega), if_pos (by omega), Int.toNat_natCast, g1', Option.bind_some]
    have g3' : templeref6_Table_rank K (⟨⟨g.Start, g.Names, g.Rules⟩, (⟨#[]⟩ : ByteArray), 1, ns, cjs g, rs⟩ : Templeref6_Table) = some (tb g ms qs) := g3
    simp only [sN]
    rw [g3']
    rfl
  · have hnl := g2.nl
    have e : hsN ms = hsN ns := rdi_ext (n := g.Names.length) (by simp [hsN, g4]) (by simp [hsN, hnl]) fun x a b => by
      rw [hsN_rd a (by omega), hsN_rd a (by omega)]
      have := g5 x a b
      by_cases c : 0 < rd ns x
      · rw [decide_eq_true c, decide_eq_true (this.2 c)]
      · rw [decide_eq_false c, decide_eq_false fun h => c (this.1 h)]
    rw [e]
    exact ⟨g2.ri.len, fun r hr hh => g2.ri.c r hr (by obtain ⟨⟨a, b⟩, _⟩ := hlv r hr; have := (hlt _ a b).2; omega) hh, g2.ri.b, g2.ri.d⟩
theorem rNulls_spec (K : Nat) (hK : 2000000 ≤ K) (g : Grammar) : ∃ r, templeref6_Nulls K g = some r ∧ NulOut g r := by
  obtain ⟨s, h1, ho⟩ := rStrata_spec K (by omega) g
  unfold templeref6_Nulls
  by_cases h0 : s.2.2 = 0
  · obtain ⟨hm, hno, xs, hx, rfl⟩ := ho.ok h0
    obtain ⟨ms, qs, h2, h3, h4⟩ := NewTable_ok K hK g hm xs hno hx h1
    have hn := hm.1.2.1
    rw [h2, Option.bind_some]
    simp only
    have e0 : (⟨⟨(tb g ms qs).G.Start, (tb g ms qs).G.Names, (tb g ms qs).G.Rules⟩, (tb g ms qs).W, (tb g ms qs).wide, (tb g ms qs).names, (tb g ms qs).conj, (tb g ms qs).rests⟩ : Templeref6_Table) = tb g ms qs := rfl
    have h5 := appLoop (n := g.Names.length) (c := 1) (B := 1000) (L := templeref6_Nulls.l1 K g (tb g ms qs)) (fun i => [decide (0 < rd ms (i : Int))]) (fun i => Nat.le_refl _) (fun m s i hi hs => by
      simp only [templeref6_Nulls.l1, List.length_singleton]
      rw [if_pos (by omega), e0, t_has hn h3 (by omega) (by omega), Option.bind_some, if_pos (by omega), wr (a := (i : Int) + 1) (by omega) (by omega)]) (fun m s => by simp only [templeref6_Nulls.l1]; rw [if_neg (by omega)]) K (by omega) [] (by simp only [List.length_nil]; omega)
    have e1 : (List.range g.Names.length).flatMap (fun i : Nat => [decide (0 < rd ms (i : Int))]) = hsN ms := by
      have : (List.range g.Names.length).flatMap (fun i : Nat => [decide (0 < rd ms (i : Int))]) = (List.range g.Names.length).map fun i : Nat => decide (0 < rd ms (i : Int)) := by
        induction List.range g.Names.length with
        | nil => rfl
        | cons y ys ih => rw [List.flatMap_cons, List.map_cons, ih]; rfl
      rw [this]
      refine rdi_ext (n := g.Names.length) (by simp) (by simp [hsN, h3]) fun x a b => ?_
      obtain ⟨j, rfl⟩ := Int.eq_ofNat_of_zero_le a
      rw [hsN_rd a (by omega), rd_nat, List.getD_eq_getElem?_getD, List.getElem?_map, List.getElem?_range (by omega)]; rfl
    rw [List.nil_append, e1] at h5
    rw [if_neg (fun h => h rfl), h5]
    exact ⟨_, rfl, .inr ⟨hm, xs, hsN ms, ho, hx, h4, rfl⟩⟩
  · have h2 : templeref6_NewTable K g (⟨#[]⟩ : ByteArray) = some (none, 1100) := by
      unfold templeref6_NewTable
      rw [h1, Option.bind_some, if_pos h0]
    rw [h2, Option.bind_some]
    simp only
    rw [if_pos (by decide)]
    exact ⟨_, rfl, .inl ⟨s, ho, h0, rfl⟩⟩
theorem NulOut.len {g : Grammar} {r : List Bool × Int} (h : NulOut g r) : r.1.length ≤ 64 := by
  rcases h with ⟨s, _, _, rfl⟩ | ⟨hm, xs, has, _, _, hp, rfl⟩
  · exact Nat.zero_le _
  · have := hp.len
    have := hm.1.2.1
    simp only; omega
theorem Emptys_true (K : Nat) (hK : KW ≤ K) (g : Grammar) (hg : SzG g) : templelaw9_Emptys K g = some true := by
  have hK' : 140737488355328 ≤ K := hK
  obtain ⟨r, h1, h2⟩ := Nulls_spec K (by omega) g
  obtain ⟨r', h3, h4⟩ := rNulls_spec K (by omega) g
  have := h2.uniq h4
  subst this
  have hl := h2.len
  have eg : (⟨g.Start, g.Names, g.Rules⟩ : Grammar) = g := rfl
  unfold templelaw9_Emptys
  rw [Copy_spec K hK g hg, Option.bind_some, eg, h1, Option.bind_some, h3, Option.bind_some]
  rw [SameBools_spec K _ _ (by omega) (by omega), Option.bind_some, decide_eq_true rfl, if_pos rfl]
  simp only [templelaw0_Num, Option.bind_some]
  rw [if_pos trivial, SameGrammar_refl K hK g hg, Option.bind_some, if_pos rfl, awake9 K (by omega)]
  rfl
theorem Emptys_holds (g : Grammar) (w : wfGrammar g) : ∃ K, templelaw9_Emptys K g = some true := ⟨KW, Emptys_true KW (Nat.le_refl _) g (SzG_wf w)⟩
end Go.Proofs.Ytflbjhfklhidjaa
