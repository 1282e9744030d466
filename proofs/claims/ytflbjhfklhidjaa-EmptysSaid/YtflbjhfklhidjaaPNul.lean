/-
  nulls.Nulls in plain Lean: level by level the least model. Own work; no claim stands here.
-/
import Derived.Test.YtflbjhfklhidjaaPH
namespace Go.Proofs.Ytflbjhfklhidjaa
open S Go.Sort
set_option linter.unusedVariables false
set_option linter.unusedSimpArgs false
set_option maxRecDepth 100000

def symE (has : List Bool) (s : Symbol) : Bool := decide (0 ≤ s.Name) && rd has s.Name
def emptyC (has : List Bool) (c : Conjunct) : Bool := c.Seq.all (symE has)
def holdsR (has : List Bool) (r : Rule) : Bool := r.Conj.all fun c => emptyC has c != c.Neg
theorem empty_spec (K : Nat) (hK : 1000 ≤ K) (c : Conjunct) (has : List Bool) (h64 : c.Seq.length ≤ 64) (hs : ∀ s ∈ c.Seq, 0 ≤ s.Name → s.Name < has.length) : nulls_empty K c has = some (emptyC has c) := by
  unfold nulls_empty emptyC
  rcases ask_all (n := c.Seq.length) (K := K) (p := fun i => symE has (rd c.Seq (i : Int)) = true) (L := nulls_empty.l0 K c has) (by omega) (fun m i hi => by
    have hm := rd_mem (xs := c.Seq) (Int.natCast_nonneg i) (by omega)
    simp only [nulls_empty.l0]
    rw [if_pos (by omega), if_pos (by omega), wr (a := (i : Int) + 1) (by omega) (by omega)]
    generalize rd c.Seq (i : Int) = s at hm ⊢
    unfold symE
    by_cases c1 : s.Name < 0
    · rw [if_pos c1, decide_eq_false (by omega)]; exact .inr ⟨by rw [Bool.false_and]; decide, rfl⟩
    · rw [if_neg c1, if_pos (by omega), if_pos (hs s hm (by omega)), decide_eq_true (by omega)]
      cases rd has s.Name with
      | true => exact .inl ⟨rfl, rfl⟩
      | false => exact .inr ⟨by decide, rfl⟩) (fun m => by simp only [nulls_empty.l0]; rw [if_neg (by omega)]) with ⟨h1, h2⟩ | ⟨h1, h2⟩
  · rw [h1, List.all_eq_true.2 (all_rd.1 h2)]; rfl
  · rw [h1]
    have : c.Seq.all (symE has) = false := by
      cases hb : c.Seq.all (symE has) with
      | false => rfl
      | true => exact absurd (all_rd.2 (List.all_eq_true.1 hb)) h2
    rw [this]; rfl
theorem holds_spec (K : Nat) (hK : 1000 ≤ K) (r : Rule) (has : List Bool) (hb : RuleBd r) (hs : ∀ c ∈ r.Conj, ∀ s ∈ c.Seq, 0 ≤ s.Name → s.Name < has.length) : nulls_holds K r has = some (holdsR has r) := by
  have h8 := hb.1
  unfold nulls_holds holdsR
  rcases ask_all (n := r.Conj.length) (K := K) (p := fun i => (emptyC has (rd r.Conj (i : Int)) != (rd r.Conj (i : Int)).Neg) = true) (L := nulls_holds.l0 K r has) (by omega) (fun m i hi => by
    have hm := rd_mem (xs := r.Conj) (Int.natCast_nonneg i) (by omega)
    simp only [nulls_holds.l0]
    rw [if_pos (by omega), if_pos (by omega), wr (a := (i : Int) + 1) (by omega) (by omega), empty_spec K hK _ has (hb.2 _ hm) (hs _ hm), Option.bind_some]
    generalize rd r.Conj (i : Int) = c
    by_cases c1 : emptyC has c = c.Neg
    · rw [if_pos c1]; exact .inr ⟨by simp [c1], rfl⟩
    · rw [if_neg c1]; exact .inl ⟨by simp [c1], rfl⟩) (fun m => by simp only [nulls_holds.l0]; rw [if_neg (by omega)]) with ⟨h1, h2⟩ | ⟨h1, h2⟩
  · rw [h1, List.all_eq_true.2 (all_rd (p := fun c => (emptyC has c != c.Neg) = true).1 h2)]; rfl
  · rw [h1]
    have : (r.Conj.all fun c => emptyC has c != c.Neg) = false := by
      cases hb : (r.Conj.all fun c => emptyC has c != c.Neg) with
      | false => rfl
      | true => exact absurd (all_rd (p := fun c => (emptyC has c != c.Neg) = true).2 (List.all_eq_true.1 hb)) h2
    rw [this]; rfl

/-! ## Levels and models -/
def LvOk (n : Nat) (rs : List Rule) (lv : Int → Int) : Prop := ∀ r ∈ rs, (0 ≤ r.Head ∧ r.Head < n) ∧ ∀ c ∈ r.Conj, ∀ s ∈ c.Seq, 0 ≤ s.Name → s.Name < n ∧ lv s.Name + (if c.Neg = true then 1 else 0) ≤ lv r.Head
theorem holds_mono {n : Nat} {rs : List Rule} {lv : Int → Int} (hl : LvOk n rs lv) {r : Rule} (hr : r ∈ rs) {A B : List Bool} {t : Int} (ht : lv r.Head ≤ t) (h1 : ∀ y : Int, 0 ≤ y → y < n → lv y < t → rd A y = rd B y) (h2 : ∀ y : Int, 0 ≤ y → y < n → lv y ≤ t → rd A y = true → rd B y = true) (h : holdsR A r = true) : holdsR B r = true := by
  unfold holdsR at h ⊢
  rw [List.all_eq_true] at h ⊢
  intro c hc
  have hcs := (hl r hr).2 c hc
  have h3 := h c hc
  cases hn : c.Neg with
  | false =>
    rw [hn] at h3 hcs
    have h4 : emptyC A c = true := by simpa using h3
    have h5 : emptyC B c = true := by
      unfold emptyC at h4 ⊢
      rw [List.all_eq_true] at h4 ⊢
      intro s hs
      have h6 := h4 s hs
      unfold symE at h6 ⊢
      rw [Bool.and_eq_true, decide_eq_true_eq] at h6 ⊢
      obtain ⟨g1, g2⟩ := hcs s hs h6.1
      rw [if_neg (by decide)] at g2
      exact ⟨h6.1, h2 _ h6.1 g1 (by omega) h6.2⟩
    rw [h5]; rfl
  | true =>
    rw [hn] at h3 hcs
    have h4 : emptyC A c = false := by simpa using h3
    have h5 : emptyC B c = false := by
      cases hb : emptyC B c with
      | false => rfl
      | true =>
        have : emptyC A c = true := by
          unfold emptyC at hb ⊢
          rw [List.all_eq_true] at hb ⊢
          intro s hs
          have h6 := hb s hs
          unfold symE at h6 ⊢
          rw [Bool.and_eq_true, decide_eq_true_eq] at h6 ⊢
          obtain ⟨g1, g2⟩ := hcs s hs h6.1
          rw [if_pos rfl] at g2
          exact ⟨h6.1, by rw [h1 _ h6.1 g1 (by omega)]; exact h6.2⟩
        rw [h4] at this; cases this
    rw [h5]; rfl
structure PM (n : Nat) (rs : List Rule) (lv : Int → Int) (has : List Bool) : Prop where
  len : has.length = n
  cl : ∀ r ∈ rs, holdsR has r = true → rd has r.Head = true
  su : ∀ x : Int, 0 ≤ x → x < n → rd has x = true → ∃ r ∈ rs, r.Head = x ∧ holdsR has r = true
  mi : ∀ (t : Int) (M : List Bool), (∀ y : Int, 0 ≤ y → y < n → lv y < t → rd M y = rd has y) → (∀ r ∈ rs, lv r.Head = t → holdsR M r = true → rd M r.Head = true) → ∀ y : Int, 0 ≤ y → y < n → lv y = t → rd has y = true → rd M y = true
theorem PM.uniq {n : Nat} {rs : List Rule} {lv : Int → Int} (h0 : ∀ y : Int, 0 ≤ y → y < n → 0 ≤ lv y) {A B : List Bool} (hA : PM n rs lv A) (hB : PM n rs lv B) : A = B := by
  have key : ∀ (t : Nat) (y : Int), 0 ≤ y → y < n → lv y < t → rd A y = rd B y := by
    intro t
    induction t with
    | zero => intro y a b h; have := h0 y a b; omega
    | succ t ih =>
      intro y a b h
      by_cases c : lv y < t
      · exact ih y a b c
      · have e : lv y = t := by omega
        have f1 := hA.mi t B (fun z a b h => (ih z a b h).symm) (fun r hr _ h => hB.cl r hr h) y a b e
        have f2 := hB.mi t A (fun z a b h => ih z a b h) (fun r hr _ h => hA.cl r hr h) y a b e
        cases hx : rd A y with
        | true => exact (f1 hx).symm
        | false =>
          cases hy : rd B y with
          | false => rfl
          | true => rw [f2 hy] at hx; cases hx
  exact rdi_ext hA.len hB.len fun y a b => key (lv y + 1).toNat y a b (by have := h0 y a b; omega)
structure RI (n : Nat) (rs : List Rule) (lv : Int → Int) (t : Int) (has : List Bool) : Prop where
  len : has.length = n
  a : ∀ x : Int, 0 ≤ x → x < n → rd has x = true → lv x ≤ t
  b : ∀ x : Int, 0 ≤ x → x < n → rd has x = true → ∃ r ∈ rs, r.Head = x ∧ holdsR has r = true
  c : ∀ r ∈ rs, lv r.Head < t → holdsR has r = true → rd has r.Head = true
  d : ∀ (t' : Int) (M : List Bool), (∀ y : Int, 0 ≤ y → y < n → lv y < t' → rd M y = rd has y) → (∀ r ∈ rs, lv r.Head = t' → holdsR M r = true → rd M r.Head = true) → ∀ y : Int, 0 ≤ y → y < n → lv y = t' → rd has y = true → rd M y = true
theorem RI.put {n : Nat} {rs : List Rule} {lv : Int → Int} {t : Int} {has : List Bool} (hl : LvOk n rs lv) (h : RI n rs lv t has) {r : Rule} (hr : r ∈ rs) (ht : lv r.Head = t) (hno : rd has r.Head = false) (hh : holdsR has r = true) : RI n rs lv t (has.set r.Head.toNat true) := by
  obtain ⟨r0, r1⟩ := (hl r hr).1
  have hlen := h.len
  have hs : ∀ x : Int, 0 ≤ x → rd (has.set r.Head.toNat true) x = if r.Head = x then true else rd has x := fun x hx => rdi_set _ r0 (by omega) hx
  have lowEq : ∀ y : Int, 0 ≤ y → y < n → lv y < t → rd (has.set r.Head.toNat true) y = rd has y := fun y a b hy => by
    rw [hs y a, if_neg (fun e => by subst e; omega)]
  have up : ∀ y : Int, 0 ≤ y → rd has y = true → rd (has.set r.Head.toNat true) y = true := fun y a hy => by
    rw [hs y a]; split
    · rfl
    · exact hy
  have grow : ∀ q ∈ rs, lv q.Head ≤ t → holdsR has q = true → holdsR (has.set r.Head.toNat true) q = true := fun q hq hqt hh => holds_mono hl hq hqt (fun y a b hy => (lowEq y a b hy).symm) (fun y a b _ hy => up y a hy) hh
  refine ⟨by simpa using hlen, fun x a b hx => ?_, fun x a b hx => ?_, fun q hq hqt hh => ?_, fun t' M hM hcl y a b hy hyt => ?_⟩
  · rw [hs x a] at hx
    split at hx
    · rename_i e; subst e; omega
    · exact h.a x a b hx
  · have hx0 := hx
    rw [hs x a] at hx
    split at hx
    · rename_i e; subst e
      exact ⟨r, hr, rfl, grow r hr (by omega) hh⟩
    · obtain ⟨q, hq, e, hh⟩ := h.b x a b hx
      have := h.a x a b hx
      exact ⟨q, hq, e, grow q hq (by rw [e]; exact this) hh⟩
  · obtain ⟨q0, q1⟩ := (hl q hq).1
    refine up _ q0 (h.c q hq hqt ?_)
    have e : lv q.Head ≤ t - 1 := by omega
    exact holds_mono hl hq (t := t - 1) e (fun y a b hy => lowEq y a b (by omega)) (fun y a b hy hyt => by rw [← lowEq y a b (by omega)]; exact hyt) hh
  · rw [hs y a] at hyt
    have hle : t' ≤ t → ∀ z : Int, 0 ≤ z → z < n → lv z < t' → rd M z = rd has z := fun hle z a b hz => by rw [hM z a b hz, lowEq z a b (by omega)]
    split at hyt
    · rename_i e
      subst e
      have e2 : t' = t := by omega
      subst e2
      have hag := hle (Int.le_refl _)
      have old := h.d t' M hag hcl
      refine hcl r hr ht (holds_mono hl hr (t := t') (by omega) (fun z a b hz => (hag z a b hz).symm) (fun z a b hz hzt => ?_) hh)
      by_cases c : lv z = t'
      · exact old z a b c hzt
      · rw [hag z a b (by omega)]; exact hzt
    · have := h.a y a b hyt
      exact h.d t' M (hle (by omega)) hcl y a b hy hyt

/-! ## The loops -/
def cf : List Bool → Nat
  | [] => 0
  | v :: xs => (if v = true then 0 else 1) + cf xs
theorem cf_set : ∀ (xs : List Bool) (i : Nat), i < xs.length → xs.getD i default = false → cf (xs.set i true) < cf xs
  | [], i, h, _ => by simp at h
  | x :: xs, 0, _, h1 => by
    have : x = false := h1
    subst this
    simp [cf]
  | x :: xs, i + 1, h, h1 => by
    have := cf_set xs i (by simpa using h) (by simpa using h1)
    simp only [List.set_cons_succ, cf]; omega
theorem cf_le : ∀ xs : List Bool, cf xs ≤ xs.length
  | [] => Nat.le_refl _
  | x :: xs => by have := cf_le xs; rw [cf, List.length_cons]; split <;> omega
theorem nul_l2 (K : Nat) (hK : 200000 ≤ K) (g : Grammar) (xs : List Int) (q : List Int × Int) (hb : Bd g) (hx : xs.length = g.Names.length) (hl : LvOk g.Names.length g.Rules (rd xs)) (t : Int) (h0l : List Bool) (h0 : RI g.Names.length g.Rules (rd xs) t h0l) :
    ∃ r, nulls_Nulls.l2 K g (xs, q) t K (h0l, false, 0) = some r ∧ RI g.Names.length g.Rules (rd xs) t r.1 ∧ ((r.2.1 = false ∧ ∀ e ∈ g.Rules, rd xs e.Head = t → holdsR r.1 e = true → rd r.1 e.Head = true) ∨ (r.2.1 = true ∧ cf r.1 < cf h0l)) := by
  have h256 := hb.1
  refine rounds (L := nulls_Nulls.l2 K g (xs, q) t) (fun s => ∃ u : Nat, s.2.2 = u ∧ u ≤ g.Rules.length ∧ RI g.Names.length g.Rules (rd xs) t s.1 ∧ ((s.2.1 = false ∧ s.1 = h0l ∧ ∀ e ∈ g.Rules.take u, rd xs e.Head = t → holdsR h0l e = true → rd h0l e.Head = true) ∨ (s.2.1 = true ∧ cf s.1 < cf h0l))) (fun s => g.Rules.length - s.2.2.toNat) (fun r => RI g.Names.length g.Rules (rd xs) t r.1 ∧ ((r.2.1 = false ∧ ∀ e ∈ g.Rules, rd xs e.Head = t → holdsR r.1 e = true → rd r.1 e.Head = true) ∨ (r.2.1 = true ∧ cf r.1 < cf h0l))) (fun s m hI => ?_) K _ ⟨0, rfl, Nat.zero_le _, h0, .inl ⟨rfl, rfl, by intro e he; simp at he⟩⟩ (by show g.Rules.length - 0 < K; omega)
  obtain ⟨has, gr, u'⟩ := s
  obtain ⟨u, rfl, hu, hv, hd⟩ := hI
  simp only at hv hd
  simp only [nulls_Nulls.l2]
  by_cases hlt : (u : Int) < g.Rules.length
  · have hlt' : u < g.Rules.length := by omega
    have hm := rd_mem (xs := g.Rules) (Int.natCast_nonneg u) hlt
    have hg := rd_get (xs := g.Rules) (Int.natCast_nonneg u) hlt
    rw [if_pos hlt, if_pos (Int.natCast_nonneg u)]
    rw [Int.toNat_natCast] at hg
    generalize rd g.Rules (u : Int) = r at hm hg
    obtain ⟨⟨r0, r1⟩, hrs⟩ := hl r hm
    have hlen := hv.len
    have skip : (rd xs r.Head = t → holdsR has r = true → rd has r.Head = true) → (gr = false ∧ has = h0l ∧ ∀ e ∈ g.Rules.take (u + 1), rd xs e.Head = t → holdsR h0l e = true → rd h0l e.Head = true) ∨ (gr = true ∧ cf has < cf h0l) := fun hn => by
      rcases hd with ⟨h1, h2, h3⟩ | h1
      · refine .inl ⟨h1, h2, fun x hx => ?_⟩
        rw [List.take_add_one, hg, List.mem_append] at hx
        rcases hx with hx | hx
        · exact h3 x hx
        · simp only [Option.toList_some, List.mem_singleton] at hx
          subst hx; subst h2; exact hn
      · exact .inr h1
    rw [if_pos r0, if_pos (by omega), wr (by omega) (by omega)]
    by_cases c1 : rd xs r.Head = t
    · rw [if_pos c1, if_pos (by omega)]
      cases c2 : rd has r.Head with
      | false =>
        rw [if_pos (show (!false) = true from rfl), holds_spec K (by omega) r has (hb.2 r hm) (fun c hc s hs h => by rw [hlen]; exact (hrs c hc s hs h).1), Option.bind_some]
        cases c3 : holdsR has r with
        | true =>
          rw [if_pos rfl]
          refine .inr ⟨_, ⟨u + 1, by simp, hlt', hv.put hl hm c1 c2 c3, .inr ⟨rfl, ?_⟩⟩, by simp only; omega, rfl⟩
          have h1 := cf_set has r.Head.toNat (by omega) c2
          rcases hd with ⟨_, h2, _⟩ | ⟨_, h2⟩
          · subst h2; exact h1
          · exact Nat.lt_trans h1 h2
        | false =>
          rw [if_neg (by decide)]
          exact .inr ⟨_, ⟨u + 1, by simp, hlt', hv, skip fun _ h => by rw [c3] at h; cases h⟩, by simp only; omega, rfl⟩
      | true =>
        rw [if_neg (by decide)]
        exact .inr ⟨_, ⟨u + 1, by simp, hlt', hv, skip fun _ _ => c2⟩, by simp only; omega, rfl⟩
    · rw [if_neg c1]
      exact .inr ⟨_, ⟨u + 1, by simp, hlt', hv, skip fun h => absurd h c1⟩, by simp only; omega, rfl⟩
  · rw [if_neg hlt]
    refine .inl ⟨_, rfl, hv, ?_⟩
    have : u = g.Rules.length := by omega
    subst this
    rcases hd with ⟨h1, h2, h3⟩ | h1
    · rw [List.take_length] at h3; exact .inl ⟨h1, by simp only [h2]; exact h3⟩
    · exact .inr h1
theorem nul_l1 (K : Nat) (hK : 200000 ≤ K) (g : Grammar) (xs : List Int) (q : List Int × Int) (hb : Bd g) (hn : g.Names.length ≤ 64) (hx : xs.length = g.Names.length) (hl : LvOk g.Names.length g.Rules (rd xs)) (t : Int) (h0l : List Bool) (h0 : RI g.Names.length g.Rules (rd xs) t h0l) :
    ∃ r, nulls_Nulls.l1 K g (xs, q) t K (h0l, true) = some r ∧ RI g.Names.length g.Rules (rd xs) (t + 1) r.1 := by
  refine rounds (L := nulls_Nulls.l1 K g (xs, q) t) (fun s => RI g.Names.length g.Rules (rd xs) t s.1 ∧ (s.2 = true ∨ ∀ e ∈ g.Rules, rd xs e.Head = t → holdsR s.1 e = true → rd s.1 e.Head = true)) (fun s => if s.2 = true then cf s.1 + 1 else 0) (fun r => RI g.Names.length g.Rules (rd xs) (t + 1) r.1) (fun s m hI => ?_) K _ ⟨h0, .inl rfl⟩ (by have := cf_le h0l; have := h0.len; simp only [if_true]; omega)
  obtain ⟨has, gr⟩ := s
  obtain ⟨h1, h2⟩ := hI
  simp only at h1 h2
  simp only [nulls_Nulls.l1]
  cases gr with
  | false =>
    rw [if_neg (by decide)]
    have h3 := h2.resolve_left (by decide)
    refine .inl ⟨_, rfl, h1.len, fun x a b hx => by have := h1.a x a b hx; omega, h1.b, fun r hr ht hh => ?_, h1.d⟩
    by_cases c : rd xs r.Head = t
    · exact h3 r hr c hh
    · exact h1.c r hr (by omega) hh
  | true =>
    obtain ⟨⟨ys, gr, u⟩, h3, h4, h5⟩ := nul_l2 K hK g xs q hb hx hl t has h1
    rw [if_pos rfl, h3, Option.bind_some]
    simp only at h4 h5
    rcases h5 with ⟨rfl, h5⟩ | ⟨rfl, h5⟩
    · exact .inr ⟨(ys, false), ⟨h4, .inr h5⟩, by simp, rfl⟩
    · exact .inr ⟨(ys, true), ⟨h4, .inl rfl⟩, by simp only [if_true]; omega, rfl⟩
theorem nul_l0 (K : Nat) (hK : 200000 ≤ K) (g : Grammar) (xs : List Int) (q : List Int × Int) (hb : Bd g) (hn : g.Names.length ≤ 64) (hx : xs.length = g.Names.length) (hl : LvOk g.Names.length g.Rules (rd xs)) (h0 : ∀ y : Int, 0 ≤ y → y < g.Names.length → 0 ≤ rd xs y) (h1 : ∀ y : Int, 0 ≤ y → y < g.Names.length → rd xs y ≤ (g.Names.length : Int) - 1) :
    ∃ r, nulls_Nulls.l0 K g (xs, q) K (List.replicate g.Names.length false, 0) = some r ∧ PM g.Names.length g.Rules (rd xs) r.1 := by
  have hz : ∀ x : Int, 0 ≤ x → x < g.Names.length → rd (List.replicate g.Names.length false) x = false := fun x a b => rdi_rep _ a b
  have hstart : RI g.Names.length g.Rules (rd xs) 0 (List.replicate g.Names.length false) := ⟨by simp, fun x a b hx => (by rw [hz x a b] at hx; cases hx), fun x a b hx => (by rw [hz x a b] at hx; cases hx), fun r hr ht _ => (by
    obtain ⟨⟨a, b⟩, _⟩ := hl r hr
    have := h0 r.Head a b; omega), fun t M _ _ y a b _ hy => (by rw [hz y a b] at hy; cases hy)⟩
  refine rounds (L := nulls_Nulls.l0 K g (xs, q)) (fun s => ∃ t : Nat, s.2 = t ∧ t ≤ g.Names.length ∧ RI g.Names.length g.Rules (rd xs) t s.1) (fun s => g.Names.length - s.2.toNat) (fun r => PM g.Names.length g.Rules (rd xs) r.1) (fun s m hI => ?_) K _ ⟨0, rfl, Nat.zero_le _, hstart⟩ (by show g.Names.length - 0 < K; omega)
  obtain ⟨has, t'⟩ := s
  obtain ⟨t, rfl, ht, hv⟩ := hI
  simp only at hv
  simp only [nulls_Nulls.l0]
  by_cases hlt : (t : Int) < g.Names.length
  · obtain ⟨⟨ys, gr⟩, g1, g2⟩ := nul_l1 K hK g xs q hb hn hx hl t has hv
    rw [if_pos hlt, g1, Option.bind_some, wr (by omega) (by omega)]
    exact .inr ⟨(ys, (t : Int) + 1), ⟨t + 1, by simp, by omega, by simpa using g2⟩, by simp only; omega, rfl⟩
  · rw [if_neg hlt]
    have : t = g.Names.length := by omega
    subst this
    refine .inl ⟨_, rfl, hv.len, fun r hr hh => hv.c r hr ?_ hh, hv.b, hv.d⟩
    obtain ⟨⟨a, b⟩, _⟩ := hl r hr
    have := h1 r.Head a b; omega

/-! ## Nulls -/
theorem lv_ok {g : Grammar} {xs : List Int} (hm : mayP g) (hx : Lev g.Names.length (edgesOf g) xs) : LvOk g.Names.length g.Rules (rd xs) := fun r hr => by
  have h1 := may_heads hm r hr
  refine ⟨⟨h1.1, h1.2.1⟩, fun c hc s hs h0 => ?_⟩
  have ho : Occ g (eOf r c s) := ⟨r, hr, c, hc, s, hs, h0, rfl⟩
  have h2 := occ_bounds hm ho
  have h3 := hx.2 _ ((mem_edges g _).2 ho)
  exact ⟨h2.2.2.2, h3⟩
def NulOut (g : Grammar) (r : List Bool × Int) : Prop :=
  (∃ s, StrOut g s ∧ s.2.2 ≠ 0 ∧ r = ([], 900)) ∨ (mayP g ∧ ∃ xs has, StrOut g (xs, [], 0) ∧ Lev g.Names.length (edgesOf g) xs ∧ PM g.Names.length g.Rules (rd xs) has ∧ r = (has, 0))
theorem StrOut.ok {g : Grammar} {r : List Int × List Int × Int} (h : StrOut g r) (h0 : r.2.2 = 0) : mayP g ∧ (∀ e ∈ edgesOf g, ¬ Cyc (edgesOf g) e) ∧ ∃ xs, Lev g.Names.length (edgesOf g) xs ∧ r = (xs, [], 0) := by
  rcases h with ⟨_, rfl⟩ | ⟨hm, ⟨c, hc, rfl⟩ | ⟨hno, xs, hx, rfl⟩⟩
  · exact absurd h0 (show (800 : Int) ≠ 0 by decide)
  · exact absurd h0 (show (801 : Int) ≠ 0 by decide)
  · exact ⟨hm, hno, xs, hx, rfl⟩
theorem Nulls_spec (K : Nat) (hK : 200000 ≤ K) (g : Grammar) : ∃ r, nulls_Nulls K g = some r ∧ NulOut g r := by
  obtain ⟨s, hs, ho⟩ := Strata_spec K hK g
  unfold nulls_Nulls
  rw [hs, Option.bind_some]
  by_cases h0 : s.2.2 = 0
  · obtain ⟨hm, hno, xs, hx, rfl⟩ := ho.ok h0
    have hn := hm.1.2.1
    obtain ⟨P, p1, p2, p3⟩ := pot_of hm hno
    obtain ⟨⟨has, q⟩, g1, g2⟩ := nul_l0 K hK g xs ([], 0) (may_bd hm) hn hx.1.1 (lv_ok hm hx) hx.1.2.1 fun y a b => by
      have := hx.1.2.2 P p1 p2 y a b
      have := p3 y a b
      omega
    rw [if_neg (fun h => h rfl), if_pos (by omega), Int.toNat_natCast, g1]
    exact ⟨_, rfl, .inr ⟨hm, xs, has, ho, hx, g2, rfl⟩⟩
  · rw [if_pos h0]
    exact ⟨_, rfl, .inl ⟨s, ho, h0, rfl⟩⟩
theorem NulOut.uniq {g : Grammar} {r r' : List Bool × Int} (h : NulOut g r) (h' : NulOut g r') : r = r' := by
  rcases h with ⟨s, h1, h2, rfl⟩ | ⟨hm, xs, has, h1, h2, h3, rfl⟩
  · rcases h' with ⟨s', _, _, rfl⟩ | ⟨_, xs', _, g1, _⟩
    · rfl
    · have := h1.uniq g1
      subst this
      exact absurd rfl h2
  · rcases h' with ⟨s', g1, g2, rfl⟩ | ⟨_, xs', has', g1, g2, g3, rfl⟩
    · have := g1.uniq h1
      subst this
      exact absurd rfl g2
    · have := h2.uniq g2
      subst this
      rw [h3.uniq h2.1.2.1 g3]
end Go.Proofs.Ytflbjhfklhidjaa
