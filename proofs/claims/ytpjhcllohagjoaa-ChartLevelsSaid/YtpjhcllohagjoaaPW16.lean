/-
  Merged: PSem PBits PChA PChB PChC PStr PChD PChE PMc PChF PLang PLaw16. Own work; no claim stands here.
-/
import Derived.Test.YtpjhcllohagjoaaPA
import Derived.Test.YtpjhcllohagjoaaT
import Derived.Test.YtpjhcllohagjoaaFF
import Derived.Test.YtpjhcllohagjoaaPGp
import Derived.Test.YtpjhcllohagjoaaPHp
/-! PSem -/
namespace Go.Proofs.Ytpjhcllohagjoaa
open S
set_option linter.unusedVariables false
set_option linter.unusedSimpArgs false

/-! ## Spans -/
abbrev Sp := Int → Nat → Nat → Prop
def SymS (N : Sp) (w : Nat → Int) (s : Symbol) (i j : Nat) : Prop := if 0 ≤ s.Name then N s.Name i j else j = i + 1 ∧ s.Lo ≤ w i ∧ w i ≤ s.Hi
def SeqS (N : Sp) (w : Nat → Int) : List Symbol → Nat → Nat → Prop
  | [], i, j => i = j
  | s :: l, i, j => ∃ k, i ≤ k ∧ k ≤ j ∧ SymS N w s i k ∧ SeqS N w l k j
def RuleS (N : Sp) (w : Nat → Int) (r : Rule) (i j : Nat) : Prop := ∀ c ∈ r.Conj, (c.Neg = true ↔ ¬ SeqS N w c.Seq i j)

theorem SeqS.le {N : Sp} {w : Nat → Int} : ∀ {l : List Symbol} {i j : Nat}, SeqS N w l i j → i ≤ j
  | [], i, j, h => Nat.le_of_eq h
  | s :: l, i, j, ⟨k, h1, _, _, h⟩ => Nat.le_trans h1 h.le
theorem SeqS_snoc {N : Sp} {w : Nat → Int} {s : Symbol} : ∀ {l : List Symbol} {i j : Nat}, SeqS N w (l ++ [s]) i j ↔ ∃ k, i ≤ k ∧ k ≤ j ∧ SeqS N w l i k ∧ SymS N w s k j
  | [], i, j => by
    constructor
    · rintro ⟨k, h1, h2, h3, h4⟩
      have : k = j := h4
      subst this
      exact ⟨i, Nat.le_refl _, h1, rfl, h3⟩
    · rintro ⟨k, h1, h2, h3, h4⟩
      have : i = k := h3
      subst this
      exact ⟨j, h2, Nat.le_refl _, h4, rfl⟩
  | t :: l, i, j => by
    constructor
    · rintro ⟨k, h1, h2, h3, h4⟩
      obtain ⟨q, q1, q2, q3, q4⟩ := SeqS_snoc.1 h4
      exact ⟨q, Nat.le_trans h1 q1, q2, ⟨k, h1, q1, h3, q3⟩, q4⟩
    · rintro ⟨q, q1, q2, ⟨k, h1, h2, h3, h4⟩, q4⟩
      exact ⟨k, h1, Nat.le_trans h2 q2, h3, SeqS_snoc.2 ⟨q, h2, q2, h4, q4⟩⟩
theorem SymS_mono {A B : Sp} {w : Nat → Int} {s : Symbol} {i j : Nat} (h : 0 ≤ s.Name → A s.Name i j → B s.Name i j) (hs : SymS A w s i j) : SymS B w s i j := by
  unfold SymS at hs ⊢
  split at hs
  · rename_i h0; rw [if_pos h0]; exact h h0 hs
  · rename_i h0; rw [if_neg h0]; exact hs
theorem SeqS_mono {A B : Sp} {w : Nat → Int} : ∀ {l : List Symbol} {i j : Nat}, (∀ s ∈ l, 0 ≤ s.Name → ∀ a b, i ≤ a → a ≤ b → b ≤ j → A s.Name a b → B s.Name a b) → SeqS A w l i j → SeqS B w l i j
  | [], i, j, _, h => h
  | s :: l, i, j, hm, ⟨k, h1, h2, h3, h4⟩ => ⟨k, h1, h2, SymS_mono (fun h0 => hm s (List.mem_cons_self ..) h0 i k (Nat.le_refl _) h1 h2) h3, SeqS_mono (fun t ht h0 a b ha hab hb => hm t (List.mem_cons_of_mem _ ht) h0 a b (Nat.le_trans h1 ha) hab hb) h4⟩

/-! ## Levels -/
/-- Each rule's names are of its head's level at most, negated ones of a lower one. -/
def LvS (n : Nat) (rs : List Rule) (lv : Int → Int) : Prop := ∀ r ∈ rs, (0 ≤ r.Head ∧ r.Head < n) ∧ ∀ c ∈ r.Conj, ∀ s ∈ c.Seq, 0 ≤ s.Name → s.Name < n ∧ lv s.Name + (if c.Neg = true then 1 else 0) ≤ lv r.Head

theorem RuleS_mono {n : Nat} {rs : List Rule} {lv : Int → Int} (hl : LvS n rs lv) {w : Nat → Int} {r : Rule} (hr : r ∈ rs) {A B : Sp} {i j : Nat}
    (h1 : ∀ y : Int, 0 ≤ y → y < n → lv y < lv r.Head → ∀ a b, i ≤ a → a ≤ b → b ≤ j → (A y a b ↔ B y a b)) (h2 : ∀ y : Int, 0 ≤ y → y < n → lv y ≤ lv r.Head → ∀ a b, i ≤ a → a ≤ b → b ≤ j → A y a b → B y a b) (h : RuleS A w r i j) : RuleS B w r i j := by
  intro c hc
  have hs := (hl r hr).2 c hc
  have hh := h c hc
  cases hn : c.Neg with
  | true =>
    rw [hn] at hh
    refine ⟨fun _ hb => hh.1 rfl (SeqS_mono (fun s hm h0 a b ha hab hb' => ?_) hb), fun _ => rfl⟩
    have := hs s hm h0
    rw [hn] at this
    exact (h1 s.Name h0 this.1 (by simp at this; omega) a b ha hab hb').2
  | false =>
    rw [hn] at hh
    refine ⟨fun e => (by cases e), fun hb => ?_⟩
    have ha : SeqS A w c.Seq i j := Classical.byContradiction fun hx => by cases hh.2 hx
    refine (hb (SeqS_mono (fun s hm h0 a b ha' hab hb' => ?_) ha)).elim
    have := hs s hm h0
    rw [hn] at this
    exact h2 s.Name h0 this.1 (by simp at this; omega) a b ha' hab hb'

/-! ## One span: level by level the least model -/
structure Lvl (n : Nat) (rs : List Rule) (lv : Int → Int) (H : (Int → Prop) → Rule → Prop) : Prop where
  hd : ∀ r ∈ rs, 0 ≤ r.Head ∧ r.Head < n
  mono : ∀ r ∈ rs, ∀ A B : Int → Prop, (∀ y : Int, 0 ≤ y → y < n → lv y < lv r.Head → (A y ↔ B y)) → (∀ y : Int, 0 ≤ y → y < n → lv y ≤ lv r.Head → A y → B y) → H A r → H B r
/-- The perfect model of one span. -/
structure PM1 (n : Nat) (rs : List Rule) (lv : Int → Int) (H : (Int → Prop) → Rule → Prop) (has : Int → Prop) : Prop where
  cl : ∀ r ∈ rs, H has r → has r.Head
  su : ∀ x : Int, 0 ≤ x → x < n → has x → ∃ r ∈ rs, r.Head = x ∧ H has r
  mi : ∀ (t : Int) (M : Int → Prop), (∀ y : Int, 0 ≤ y → y < n → lv y < t → (M y ↔ has y)) → (∀ r ∈ rs, lv r.Head = t → H M r → M r.Head) → ∀ y : Int, 0 ≤ y → y < n → lv y = t → has y → M y
theorem PM1.uniq {n : Nat} {rs : List Rule} {lv : Int → Int} {H : (Int → Prop) → Rule → Prop} (h0 : ∀ y : Int, 0 ≤ y → y < n → 0 ≤ lv y) {A B : Int → Prop} (hA : PM1 n rs lv H A) (hB : PM1 n rs lv H B) : ∀ x : Int, 0 ≤ x → x < n → (A x ↔ B x) := by
  have key : ∀ t : Nat, ∀ x : Int, 0 ≤ x → x < n → lv x < t → (A x ↔ B x) := by
    intro t
    induction t with
    | zero => intro x h1 h2 h3; have := h0 x h1 h2; omega
    | succ t ih =>
      intro x h1 h2 h3
      by_cases hx : lv x < t
      · exact ih x h1 h2 hx
      · have hx' : lv x = t := by omega
        exact ⟨hA.mi t B (fun y y1 y2 y3 => (ih y y1 y2 y3).symm) (fun r hr _ h => hB.cl r hr h) x h1 h2 hx', hB.mi t A (fun y y1 y2 y3 => ih y y1 y2 y3) (fun r hr _ h => hA.cl r hr h) x h1 h2 hx'⟩
  intro x h1 h2
  refine key (lv x + 1).toNat x h1 h2 ?_
  have := h0 x h1 h2; omega
/-- Under way: levels below t are done. -/
structure RI (n : Nat) (rs : List Rule) (lv : Int → Int) (H : (Int → Prop) → Rule → Prop) (t : Int) (has : Int → Prop) : Prop where
  a : ∀ x : Int, 0 ≤ x → x < n → has x → lv x ≤ t
  b : ∀ x : Int, 0 ≤ x → x < n → has x → ∃ r ∈ rs, r.Head = x ∧ H has r
  c : ∀ r ∈ rs, lv r.Head < t → H has r → has r.Head
  d : ∀ (t' : Int) (M : Int → Prop), (∀ y : Int, 0 ≤ y → y < n → lv y < t' → (M y ↔ has y)) → (∀ r ∈ rs, lv r.Head = t' → H M r → M r.Head) → ∀ y : Int, 0 ≤ y → y < n → lv y = t' → has y → M y
variable {n : Nat} {rs : List Rule} {lv : Int → Int} {H : (Int → Prop) → Rule → Prop}
theorem RI.zero (h0 : ∀ y : Int, 0 ≤ y → y < n → 0 ≤ lv y) (hl : Lvl n rs lv H) : RI n rs lv H 0 fun _ => False :=
  ⟨fun _ _ _ h => h.elim, fun _ _ _ h => h.elim, fun r hr h _ => by have := h0 r.Head (hl.hd r hr).1 (hl.hd r hr).2; omega, fun _ _ _ _ _ _ _ _ h => h.elim⟩
theorem RI.put {t : Int} {has : Int → Prop} (hl : Lvl n rs lv H) (h : RI n rs lv H t has) {r : Rule} (hr : r ∈ rs) (ht : lv r.Head = t) (hh : H has r) : RI n rs lv H t fun x => has x ∨ x = r.Head := by
  have hd := hl.hd r hr
  refine ⟨fun x h1 h2 hx => hx.elim (h.a x h1 h2) (fun e => by rw [e]; omega), fun x h1 h2 hx => ?_, fun q hq hlt hH => ?_, fun t' M hM hc y h1 h2 hy hx => ?_⟩
  · have up : ∀ q ∈ rs, H has q → H (fun x => has x ∨ x = r.Head) q ∨ t ≤ lv q.Head := fun q hq hH => by
      by_cases e : t ≤ lv q.Head
      · exact .inr e
      · refine .inl (hl.mono q hq _ _ (fun y y1 y2 y3 => ⟨.inl, fun z => z.elim id fun e' => ?_⟩) (fun y _ _ _ z => .inl z) hH)
        rw [e', ht] at y3; omega
    have up2 : ∀ q ∈ rs, t ≤ lv q.Head → lv q.Head ≤ t → H has q → H (fun x => has x ∨ x = r.Head) q := fun q hq h1 h2 hH => hl.mono q hq _ _ (fun y y1 y2 y3 => ⟨.inl, fun z => z.elim id fun e' => by rw [e', ht] at y3; omega⟩) (fun y _ _ _ z => .inl z) hH
    have any : ∀ q ∈ rs, lv q.Head ≤ t → H has q → H (fun x => has x ∨ x = r.Head) q := fun q hq hle hH => (up q hq hH).elim id fun e => up2 q hq e hle hH
    rcases hx with hx | hx
    · obtain ⟨q, hq, e, hH⟩ := h.b x h1 h2 hx
      exact ⟨q, hq, e, any q hq (by rw [e]; exact h.a x h1 h2 hx) hH⟩
    · exact ⟨r, hr, hx.symm, any r hr (by omega) hh⟩
  · refine .inl (h.c q hq hlt (hl.mono q hq _ _ (fun y y1 y2 y3 => ⟨fun z => z.elim id fun e' => ?_, .inl⟩) (fun y _ _ y3 z => z.elim id fun e' => ?_) hH))
    · rw [e', ht] at y3; omega
    · rw [e', ht] at y3; omega
  · by_cases e : t < t'
    · rcases hx with hx | hx
      · have := h.a y h1 h2 hx; omega
      · rw [hx, ht] at hy; omega
    · have hM' : ∀ z : Int, 0 ≤ z → z < n → lv z < t' → (M z ↔ has z) := fun z z1 z2 z3 => by
        rw [hM z z1 z2 z3]
        exact ⟨fun q => q.elim id fun e' => by rw [e', ht] at z3; omega, .inl⟩
      rcases hx with hx | hx
      · exact h.d t' M hM' hc y h1 h2 hy hx
      · subst hx
        have et : t' = t := by omega
        subst et
        exact hc r hr ht (hl.mono r hr _ _ (fun z z1 z2 z3 => (hM' z z1 z2 (by omega)).symm) (fun z z1 z2 z3 q => by
          by_cases e3 : lv z < t'
          · exact (hM' z z1 z2 e3).2 q
          · exact h.d t' M hM' hc z z1 z2 (by omega) q) hh)
/-- Several heads at once. -/
theorem RI.puts {t : Int} {has A : Int → Prop} (hl : Lvl n rs lv H) (h : RI n rs lv H t has) (hA : ∀ x, A x → ∃ r ∈ rs, r.Head = x ∧ lv x = t ∧ H has r) : RI n rs lv H t fun x => has x ∨ A x := by
  have lo : ∀ y : Int, lv y < t → ((has y ∨ A y) ↔ has y) := fun y hy => ⟨fun z => z.elim id fun e => by obtain ⟨r, _, _, h2, _⟩ := hA y e; omega, .inl⟩
  have any : ∀ q ∈ rs, lv q.Head ≤ t → H has q → H (fun x => has x ∨ A x) q := fun q hq hle hH => hl.mono q hq _ _ (fun y y1 y2 y3 => (lo y (by omega)).symm) (fun y _ _ _ z => .inl z) hH
  refine ⟨fun x h1 h2 hx => hx.elim (h.a x h1 h2) (fun e => by obtain ⟨r, _, _, h3, _⟩ := hA x e; omega), fun x h1 h2 hx => ?_, fun q hq hlt hH => .inl (h.c q hq hlt (hl.mono q hq _ _ (fun y y1 y2 y3 => lo y (by omega)) (fun y _ _ y3 z => (lo y (by omega)).1 z) hH)), fun t' M hM hc y h1 h2 hy hx => ?_⟩
  · rcases hx with hx | hx
    · obtain ⟨q, hq, e, hH⟩ := h.b x h1 h2 hx
      exact ⟨q, hq, e, any q hq (by rw [e]; exact h.a x h1 h2 hx) hH⟩
    · obtain ⟨r, hr, e, h3, hH⟩ := hA x hx
      exact ⟨r, hr, e, any r hr (by rw [e]; omega) hH⟩
  · by_cases e : t < t'
    · rcases hx with hx | hx
      · have := h.a y h1 h2 hx; omega
      · obtain ⟨r, _, _, h3, _⟩ := hA y hx; omega
    · have hM' : ∀ z : Int, 0 ≤ z → z < n → lv z < t' → (M z ↔ has z) := fun z z1 z2 z3 => by
        rw [hM z z1 z2 z3]; exact lo z (by omega)
      rcases hx with hx | hx
      · exact h.d t' M hM' hc y h1 h2 hy hx
      · obtain ⟨r, hr, er, h3, hH⟩ := hA y hx
        have et : t' = t := by omega
        subst et
        subst er
        exact hc r hr h3 (hl.mono r hr _ _ (fun z z1 z2 z3 => (hM' z z1 z2 (by omega)).symm) (fun z z1 z2 z3 q => by
          by_cases e3 : lv z < t'
          · exact (hM' z z1 z2 e3).2 q
          · exact h.d t' M hM' hc z z1 z2 (by omega) q) hH)
theorem RI.up {t : Int} {has : Int → Prop} (h : RI n rs lv H t has) (hc : ∀ r ∈ rs, lv r.Head = t → H has r → has r.Head) : RI n rs lv H (t + 1) has :=
  ⟨fun x h1 h2 hx => by have := h.a x h1 h2 hx; omega, h.b, fun r hr hlt hH => by
    by_cases e : lv r.Head < t
    · exact h.c r hr e hH
    · exact hc r hr (by omega) hH, h.d⟩
theorem RI.done {t : Int} {has : Int → Prop} (h : RI n rs lv H t has) (hl : Lvl n rs lv H) (ht : ∀ y : Int, 0 ≤ y → y < n → lv y < t) : PM1 n rs lv H has :=
  ⟨fun r hr hH => h.c r hr (ht _ (hl.hd r hr).1 (hl.hd r hr).2) hH, h.b, h.d⟩
/-- Only names that there are count. -/
theorem RI_on {t : Int} {A B : Int → Prop} (h : RI n rs lv H t A) (e : ∀ y : Int, 0 ≤ y → y < n → (B y ↔ A y)) (hl : Lvl n rs lv H) : RI n rs lv H t B := by
  have up : ∀ r ∈ rs, H A r → H B r := fun r hr hH => hl.mono r hr A B (fun y y1 y2 _ => (e y y1 y2).symm) (fun y y1 y2 _ => (e y y1 y2).2) hH
  have dn : ∀ r ∈ rs, H B r → H A r := fun r hr hH => hl.mono r hr B A (fun y y1 y2 _ => e y y1 y2) (fun y y1 y2 _ => (e y y1 y2).1) hH
  exact ⟨fun x h1 h2 hx => h.a x h1 h2 ((e x h1 h2).1 hx), fun x h1 h2 hx => let ⟨r, hr, er, hH⟩ := h.b x h1 h2 ((e x h1 h2).1 hx); ⟨r, hr, er, up r hr hH⟩, fun r hr hlt hH => (e _ (hl.hd r hr).1 (hl.hd r hr).2).2 (h.c r hr hlt (dn r hr hH)),
    fun t' M hM hc y h1 h2 hy hx => h.d t' M (fun y y1 y2 y3 => (hM y y1 y2 y3).trans (e y y1 y2)) hc y h1 h2 hy ((e y h1 h2).1 hx)⟩
theorem RI.congr {t : Int} {A B : Int → Prop} (h : RI n rs lv H t A) (e : A = B) : RI n rs lv H t B := e ▸ h

/-! ## All spans -/
def upd (N : Sp) (i j : Nat) (M : Int → Prop) : Sp := fun x a b => if a = i ∧ b = j then M x else N x a b
theorem upd_self {N : Sp} {i j : Nat} : upd N i j (fun x => N x i j) = N := by
  funext x a b
  unfold upd
  split
  · rename_i h; rw [h.1, h.2]
  · rfl
def HS (N : Sp) (w : Nat → Int) (i j : Nat) (M : Int → Prop) (r : Rule) : Prop := RuleS (upd N i j M) w r i j
theorem HS_lvl {n : Nat} {rs : List Rule} {lv : Int → Int} (hl : LvS n rs lv) (N : Sp) (w : Nat → Int) (i j : Nat) : Lvl n rs lv (HS N w i j) :=
  ⟨fun r hr => (hl r hr).1, fun r hr A B h1 h2 h => RuleS_mono hl hr (fun y y1 y2 y3 a b _ _ _ => by
    unfold upd; split
    · exact h1 y y1 y2 y3
    · exact Iff.rfl) (fun y y1 y2 y3 a b _ _ _ => by
    unfold upd; split
    · exact h2 y y1 y2 y3
    · exact id) h⟩
/-- The environment counts within the span alone. -/
theorem HS_env {n : Nat} {rs : List Rule} {lv : Int → Int} (hl : LvS n rs lv) {A B : Sp} {w : Nat → Int} {i j : Nat} {M : Int → Prop} {r : Rule} (hr : r ∈ rs) (h : ∀ y : Int, 0 ≤ y → y < n → ∀ a b, i ≤ a → a ≤ b → b ≤ j → ¬ (a = i ∧ b = j) → (A y a b ↔ B y a b)) : HS A w i j M r → HS B w i j M r :=
  RuleS_mono hl hr (fun y y1 y2 _ a b h1 h2 h3 => by
    unfold upd; split
    · exact Iff.rfl
    · rename_i e; exact h y y1 y2 a b h1 h2 h3 e) (fun y y1 y2 _ a b h1 h2 h3 => by
    unfold upd; split
    · exact id
    · rename_i e; exact (h y y1 y2 a b h1 h2 h3 e).1)
theorem PM1.env {n : Nat} {rs : List Rule} {lv : Int → Int} (hl : LvS n rs lv) {A B : Sp} {w : Nat → Int} {i j : Nat} {has : Int → Prop} (h : ∀ y : Int, 0 ≤ y → y < n → ∀ a b, i ≤ a → a ≤ b → b ≤ j → ¬ (a = i ∧ b = j) → (A y a b ↔ B y a b)) (hp : PM1 n rs lv (HS A w i j) has) : PM1 n rs lv (HS B w i j) has := by
  have h' : ∀ y : Int, 0 ≤ y → y < n → ∀ a b, i ≤ a → a ≤ b → b ≤ j → ¬ (a = i ∧ b = j) → (B y a b ↔ A y a b) := fun y y1 y2 a b h1 h2 h3 h4 => (h y y1 y2 a b h1 h2 h3 h4).symm
  exact ⟨fun r hr hH => hp.cl r hr (HS_env hl hr h' hH), fun x x1 x2 hx => let ⟨r, hr, e, hH⟩ := hp.su x x1 x2 hx; ⟨r, hr, e, HS_env hl hr h hH⟩, fun t M hM hc => hp.mi t M hM fun r hr ht hH => hc r hr ht (HS_env hl hr h hH)⟩
/-- The meaning: the perfect model of all spans up to L. -/
def PMs (n : Nat) (rs : List Rule) (lv : Int → Int) (w : Nat → Int) (L : Nat) (N : Sp) : Prop := ∀ i j, i ≤ j → j ≤ L → PM1 n rs lv (HS N w i j) fun x => N x i j
theorem PMs.uniq {n : Nat} {rs : List Rule} {lv : Int → Int} {w : Nat → Int} {L : Nat} (hl : LvS n rs lv) (h0 : ∀ y : Int, 0 ≤ y → y < n → 0 ≤ lv y) {A B : Sp} (hA : PMs n rs lv w L A) (hB : PMs n rs lv w L B) : ∀ i j, i ≤ j → j ≤ L → ∀ x : Int, 0 ≤ x → x < n → (A x i j ↔ B x i j) := by
  have key : ∀ d i j, j - i < d → i ≤ j → j ≤ L → ∀ x : Int, 0 ≤ x → x < n → (A x i j ↔ B x i j) := by
    intro d
    induction d with
    | zero => intro i j h; omega
    | succ d ih =>
      intro i j hd hij hj
      have e : ∀ y : Int, 0 ≤ y → y < n → ∀ a b, i ≤ a → a ≤ b → b ≤ j → ¬ (a = i ∧ b = j) → (A y a b ↔ B y a b) := fun y y1 y2 a b h1 h2 h3 h4 => ih a b (by omega) h2 (by omega) y y1 y2
      exact PM1.uniq h0 ((hA i j hij hj).env hl e) (hB i j hij hj)
  intro i j hij hj
  exact key (j - i + 1) i j (by omega) hij hj
theorem PMs.cl {n : Nat} {rs : List Rule} {lv : Int → Int} {w : Nat → Int} {L : Nat} {N : Sp} (h : PMs n rs lv w L N) {r : Rule} (hr : r ∈ rs) {i j : Nat} (hij : i ≤ j) (hj : j ≤ L) (hR : RuleS N w r i j) : N r.Head i j :=
  (h i j hij hj).cl r hr (by unfold HS; rw [upd_self]; exact hR)
theorem PMs.su {n : Nat} {rs : List Rule} {lv : Int → Int} {w : Nat → Int} {L : Nat} {N : Sp} (h : PMs n rs lv w L N) {x : Int} (h0 : 0 ≤ x) (h1 : x < n) {i j : Nat} (hij : i ≤ j) (hj : j ≤ L) (hx : N x i j) : ∃ r ∈ rs, r.Head = x ∧ RuleS N w r i j := by
  obtain ⟨r, hr, e, hH⟩ := (h i j hij hj).su x h0 h1 hx
  unfold HS at hH; rw [upd_self] at hH
  exact ⟨r, hr, e, hH⟩
theorem PMs.less {n : Nat} {rs : List Rule} {lv : Int → Int} {w : Nat → Int} {L L' : Nat} {N : Sp} (h : PMs n rs lv w L N) (hL : L' ≤ L) : PMs n rs lv w L' N := fun i j hij hj => h i j hij (Nat.le_trans hj hL)
/-- Only the word up to L counts. -/
theorem SeqS_word {N : Sp} {w w' : Nat → Int} : ∀ {l : List Symbol} {i j : Nat}, (∀ k, k < j → w k = w' k) → SeqS N w l i j → SeqS N w' l i j
  | [], i, j, _, h => h
  | s :: l, i, j, hw, ⟨k, h1, h2, h3, h4⟩ => ⟨k, h1, h2, by
      unfold SymS at h3 ⊢
      split at h3
      · rename_i e; rw [if_pos e]; exact h3
      · rename_i e; rw [if_neg e, ← hw i (by omega)]; exact h3, SeqS_word hw h4⟩
theorem RuleS_word {N : Sp} {w w' : Nat → Int} {r : Rule} {i j : Nat} (hw : ∀ k, k < j → w k = w' k) (h : RuleS N w r i j) : RuleS N w' r i j := fun c hc =>
  (h c hc).trans (not_congr ⟨SeqS_word hw, SeqS_word fun k hk => (hw k hk).symm⟩)
theorem PMs.word {n : Nat} {rs : List Rule} {lv : Int → Int} {w w' : Nat → Int} {L : Nat} {N : Sp} (h : PMs n rs lv w L N) (hw : ∀ k, k < L → w k = w' k) : PMs n rs lv w' L N := fun i j hij hj => by
  have hp := h i j hij hj
  have a : ∀ {M : Int → Prop} {r : Rule}, HS N w i j M r → HS N w' i j M r := fun hH => RuleS_word (fun k hk => hw k (by omega)) hH
  have b : ∀ {M : Int → Prop} {r : Rule}, HS N w' i j M r → HS N w i j M r := fun hH => RuleS_word (fun k hk => (hw k (by omega)).symm) hH
  exact ⟨fun r hr hH => hp.cl r hr (b hH), fun x x1 x2 hx => let ⟨r, hr, e, hH⟩ := hp.su x x1 x2 hx; ⟨r, hr, e, a hH⟩, fun t M hM hc => hp.mi t M hM fun r hr ht hH => hc r hr ht (a hH)⟩
/-- A model whose spans stand beside those of another one below L. -/
theorem PMs.congr {n : Nat} {rs : List Rule} {lv : Int → Int} {w : Nat → Int} {L : Nat} {A B : Sp} (h : PMs n rs lv w L A) (e : ∀ x i j, i ≤ j → j ≤ L → (A x i j ↔ B x i j)) (hl : LvS n rs lv) : PMs n rs lv w L B := fun i j hij hj => by
  have h1 := (h i j hij hj).env hl (B := B) fun y _ _ a b _ h2 h3 _ => e y a b h2 (by omega)
  have h2 : (fun x => A x i j) = fun x => B x i j := by funext x; exact propext (e x i j hij hj)
  rw [← h2]; exact h1
end Go.Proofs.Ytpjhcllohagjoaa

/-! PBits -/
namespace Go.Proofs.Ytpjhcllohagjoaa
open S
set_option linter.unusedVariables false
set_option linter.unusedSimpArgs false

def okW (v : Int) : Prop := 0 ≤ v ∧ v < 18446744073709551616
def bit (v : Int) (i : Nat) : Bool := v.toNat.testBit i
theorem okW0 : okW 0 := ⟨by decide, by decide⟩
theorem bit0 (i : Nat) : bit 0 i = false := by simp [bit]
theorem okW_lt {v : Int} (h : okW v) : v.toNat < 2 ^ 64 := by have := h.1; have := h.2; omega
theorem okW_cast {v : Int} (h : okW v) : ((v.toNat : Nat) : Int) = v := Int.toNat_of_nonneg h.1
theorem shr1 {v : Int} (h : okW v) (i : Nat) : iand .u64 (ishr .u64 v (i : Int)) 1 = if bit v i = true then 1 else 0 := by
  have := shr_bit (n := v.toNat) (j := i) (okW_lt h)
  rw [okW_cast h] at this
  rw [this]; unfold bit; split <;> simp_all
theorem and_one {v : Int} (h : okW v) : iand .u64 v 1 = if bit v 0 = true then 1 else 0 := by
  have := shr1 h 0
  rw [ishr] at this
  simpa using this
theorem or_ok {v : Int} (h : okW v) {i : Nat} (hi : i < 64) : okW (ior .u64 v (ishl .u64 1 (i : Int))) := by
  have h1 := ishl_nat hi
  rw [h1, ← okW_cast h, ior_nat (okW_lt h) (Nat.pow_lt_pow_right (by decide) hi)]
  have := Nat.or_lt_two_pow (okW_lt h) (Nat.pow_lt_pow_right (show 1 < 2 by decide) hi)
  exact ⟨Int.natCast_nonneg _, by omega⟩
theorem or_bit {v : Int} (h : okW v) {i : Nat} (hi : i < 64) (k : Nat) : bit (ior .u64 v (ishl .u64 1 (i : Int))) k = (bit v k || decide (k = i)) := by
  have h1 := ishl_nat hi
  rw [h1, ← okW_cast h, ior_nat (okW_lt h) (Nat.pow_lt_pow_right (by decide) hi)]
  simp only [bit, Int.toNat_natCast, Nat.testBit_or, Nat.testBit_two_pow]
  by_cases e : i = k
  · subst e; simp
  · have e' : ¬ k = i := fun x => e x.symm
    simp [e, e']

variable {T : Type} [Inhabited T]
theorem rd_set' {xs : List T} {i : Nat} {x : T} (k : Nat) : rd (xs.set i x) (k : Int) = if i = k ∧ i < xs.length then x else rd xs (k : Int) := by
  by_cases h : i < xs.length
  · rw [rd_set x h]; simp [h]
  · rw [List.set_eq_of_length_le (by omega)]; simp [h]
theorem rd_out {xs : List T} {k : Nat} (h : xs.length ≤ k) : rd xs (k : Int) = default := by simp [rd, List.getD_eq_getElem?_getD, h]
theorem rd_app_lt {xs ys : List T} {k : Nat} (h : k < xs.length) : rd (xs ++ ys) (k : Int) = rd xs (k : Int) := by simp [rd, List.getD_eq_getElem?_getD, List.getElem?_append_left h]
theorem rd_app_at {xs : List T} {y : T} : rd (xs ++ [y]) (xs.length : Int) = y := by simp [rd, List.getD_eq_getElem?_getD]
theorem take_succ_rd {xs : List T} {m : Nat} (h : m < xs.length) : xs.take (m + 1) = xs.take m ++ [rd xs (m : Int)] := by
  rw [List.take_add_one, List.getElem?_eq_getElem h]
  simp [rd, List.getD_eq_getElem?_getD, h]
theorem rd_mem' {xs : List T} {k : Nat} (h : k < xs.length) : rd xs (k : Int) ∈ xs := rd_mem (Int.natCast_nonneg _) (by omega)
theorem mem_rd {xs : List T} {x : T} (h : x ∈ xs) : ∃ k, k < xs.length ∧ rd xs (k : Int) = x := by
  obtain ⟨k, hk, e⟩ := List.getElem_of_mem h
  exact ⟨k, hk, by simp [rd, List.getD_eq_getElem?_getD, hk, e]⟩
end Go.Proofs.Ytpjhcllohagjoaa

/-! PChA -/
namespace Go.Proofs.Ytpjhcllohagjoaa
open S
set_option linter.unusedVariables false
set_option linter.unusedSimpArgs false
set_option maxRecDepth 10000

/-! ## Sets -/
abbrev sq (g : Grammar) (r c : Nat) : List Symbol := (rd (rd g.Rules (r : Int)).Conj (c : Int)).Seq
abbrev nc (g : Grammar) (r : Nat) : Nat := (rd g.Rules (r : Int)).Conj.length
def sg (X : List Chart_set) (k r c : Nat) : List Int := rd (rd (rd X (k : Int)).begun (r : Int)) (c : Int)
def NS (X : List Chart_set) : Sp := fun x i k => bit (rd (rd X (k : Int)).names x) i = true
def BS (X : List Chart_set) (r c m i k : Nat) : Prop := bit (rd (sg X k r c) (m : Int)) i = true
structure Shp (g : Grammar) (X : List Chart_set) : Prop where
  n1 : ∀ k, k < X.length → (rd X (k : Int)).names.length = g.Names.length
  n2 : ∀ k, k < X.length → ∀ x : Nat, x < g.Names.length → okW (rd (rd X (k : Int)).names (x : Int))
  b1 : ∀ k, k < X.length → (rd X (k : Int)).begun.length = g.Rules.length
  b2 : ∀ k, k < X.length → ∀ r, r < g.Rules.length → (rd (rd X (k : Int)).begun (r : Int)).length = nc g r
  b3 : ∀ k, k < X.length → ∀ r, r < g.Rules.length → ∀ c, c < nc g r → (sg X k r c).length = (sq g r c).length + 1
  b4 : ∀ k, k < X.length → ∀ r, r < g.Rules.length → ∀ c, c < nc g r → ∀ m : Nat, m ≤ (sq g r c).length → okW (rd (sg X k r c) (m : Int))

def setB (X : List Chart_set) (j r c m : Nat) (v : Int) : List Chart_set := X.set j ⟨(rd X (j : Int)).names, (rd X (j : Int)).begun.set r ((rd (rd X (j : Int)).begun (r : Int)).set c ((rd (rd (rd X (j : Int)).begun (r : Int)) (c : Int)).set m v))⟩
def setN (X : List Chart_set) (j x : Nat) (v : Int) : List Chart_set := X.set j ⟨(rd X (j : Int)).names.set x v, (rd X (j : Int)).begun⟩

theorem setB_len (X : List Chart_set) (j r c m : Nat) (v : Int) : (setB X j r c m v).length = X.length := by simp [setB]
theorem setN_len (X : List Chart_set) (j x : Nat) (v : Int) : (setN X j x v).length = X.length := by simp [setN]
theorem setB_nm (X : List Chart_set) (j r c m : Nat) (v : Int) (k : Nat) : (rd (setB X j r c m v) (k : Int)).names = (rd X (k : Int)).names := by
  unfold setB; rw [rd_set']
  split
  · rename_i h; rw [← h.1]
  · rfl
theorem setN_bg (X : List Chart_set) (j x : Nat) (v : Int) (k : Nat) : (rd (setN X j x v) (k : Int)).begun = (rd X (k : Int)).begun := by
  unfold setN; rw [rd_set']
  split
  · rename_i h; rw [← h.1]
  · rfl
theorem setN_sg (X : List Chart_set) (j x : Nat) (v : Int) (k r c : Nat) : sg (setN X j x v) k r c = sg X k r c := by unfold sg; rw [setN_bg]
theorem setB_row {X : List Chart_set} {j r c m : Nat} {v : Int} (hj : j < X.length) (hr : r < (rd X (j : Int)).begun.length) (k r' : Nat) : rd (rd (setB X j r c m v) (k : Int)).begun (r' : Int) = if k = j ∧ r' = r then (rd (rd X (j : Int)).begun (r : Int)).set c ((sg X j r c).set m v) else rd (rd X (k : Int)).begun (r' : Int) := by
  unfold setB; rw [rd_set']
  by_cases h : j = k
  · subst h
    rw [if_pos ⟨rfl, hj⟩]
    show rd (List.set _ _ _) _ = _
    rw [rd_set']
    by_cases h2 : r = r'
    · subst h2; rw [if_pos ⟨rfl, hr⟩, if_pos ⟨rfl, rfl⟩]; rfl
    · rw [if_neg (fun x => h2 x.1), if_neg (fun x => h2 x.2.symm)]
  · rw [if_neg (fun x => h x.1), if_neg (fun x => h x.1.symm)]
theorem setB_sg {X : List Chart_set} {j r c m : Nat} {v : Int} (hj : j < X.length) (hr : r < (rd X (j : Int)).begun.length) (hc : c < (rd (rd X (j : Int)).begun (r : Int)).length) (k r' c' : Nat) : sg (setB X j r c m v) k r' c' = if k = j ∧ r' = r ∧ c' = c then (sg X j r c).set m v else sg X k r' c' := by
  show rd (rd (rd (setB X j r c m v) (k : Int)).begun (r' : Int)) (c' : Int) = _
  rw [setB_row hj hr]
  by_cases h : k = j ∧ r' = r
  · rw [if_pos h, rd_set']
    by_cases h2 : c = c'
    · rw [if_pos ⟨h2, hc⟩, if_pos ⟨h.1, h.2, h2.symm⟩]
    · rw [if_neg (fun x => h2 x.1), if_neg (fun x => h2 x.2.2.symm), h.1, h.2]; rfl
  · rw [if_neg h, if_neg (fun x => h ⟨x.1, x.2.1⟩)]; rfl
theorem setB_bl {X : List Chart_set} {j r c m : Nat} {v : Int} (k : Nat) : (rd (setB X j r c m v) (k : Int)).begun.length = (rd X (k : Int)).begun.length := by
  unfold setB; rw [rd_set']
  split
  · rename_i h; rw [← h.1]; simp
  · rfl
/-- A bit is put. -/
theorem setB_shp {g : Grammar} {X : List Chart_set} (h : Shp g X) {j r c m : Nat} {v : Int} (hj : j < X.length) (hr : r < g.Rules.length) (hc : c < nc g r) (hv : okW v) : Shp g (setB X j r c m v) := by
  have hr' : r < (rd X (j : Int)).begun.length := by rw [h.b1 j hj]; exact hr
  have hc' : c < (rd (rd X (j : Int)).begun (r : Int)).length := by rw [h.b2 j hj r hr]; exact hc
  refine ⟨fun k hk => ?_, fun k hk x hx => ?_, fun k hk => ?_, fun k hk r' h1 => ?_, fun k hk r' h1 c' h2 => ?_, fun k hk r' h1 c' h2 m' h3 => ?_⟩
  all_goals rw [setB_len] at hk
  · rw [setB_nm]; exact h.n1 k hk
  · rw [setB_nm]; exact h.n2 k hk x hx
  · rw [setB_bl]; exact h.b1 k hk
  · rw [setB_row hj hr']
    split
    · rename_i e; rw [List.length_set, e.2]; exact h.b2 j hj r hr
    · exact h.b2 k hk r' h1
  · rw [setB_sg hj hr' hc']
    split
    · rename_i e; rw [List.length_set, e.2.1, e.2.2]; exact h.b3 j hj r hr c hc
    · exact h.b3 k hk r' h1 c' h2
  · rw [setB_sg hj hr' hc']
    split
    · rename_i e; rw [rd_set']
      split
      · exact hv
      · rw [e.2.1, e.2.2] at h3; exact h.b4 j hj r hr c hc m' h3
    · exact h.b4 k hk r' h1 c' h2 m' h3
theorem setB_BS {g : Grammar} {X : List Chart_set} (h : Shp g X) {j r c m i : Nat} (hj : j < X.length) (hr : r < g.Rules.length) (hc : c < nc g r) (hm : m ≤ (sq g r c).length) (hi : i < 64) (r' c' m' i' k : Nat) :
    BS (setB X j r c m (ior .u64 (rd (sg X j r c) (m : Int)) (ishl .u64 1 (i : Int)))) r' c' m' i' k ↔ BS X r' c' m' i' k ∨ (k = j ∧ r' = r ∧ c' = c ∧ m' = m ∧ i' = i) := by
  have hr' : r < (rd X (j : Int)).begun.length := by rw [h.b1 j hj]; exact hr
  have hc' : c < (rd (rd X (j : Int)).begun (r : Int)).length := by rw [h.b2 j hj r hr]; exact hc
  unfold BS
  rw [setB_sg hj hr' hc']
  by_cases e : k = j ∧ r' = r ∧ c' = c
  · rw [if_pos e, rd_set']
    by_cases e2 : m = m'
    · subst e2
      rw [if_pos ⟨rfl, by rw [h.b3 j hj r hr c hc]; omega⟩, or_bit (h.b4 j hj r hr c hc m hm) hi, e.1, e.2.1, e.2.2]
      simp
    · rw [if_neg (fun x => e2 x.1), e.1, e.2.1, e.2.2]
      exact ⟨.inl, fun x => x.elim id fun y => (e2 y.2.2.2.1.symm).elim⟩
  · rw [if_neg e]
    exact ⟨.inl, fun x => x.elim id fun y => (e ⟨y.1, y.2.1, y.2.2.1⟩).elim⟩
theorem setB_NS (X : List Chart_set) (j r c m : Nat) (v : Int) : NS (setB X j r c m v) = NS X := by
  funext x i k; unfold NS; rw [setB_nm]
theorem setN_shp {g : Grammar} {X : List Chart_set} (h : Shp g X) {j x : Nat} {v : Int} (hj : j < X.length) (hv : okW v) : Shp g (setN X j x v) := by
  refine ⟨fun k hk => ?_, fun k hk x' hx' => ?_, fun k hk => ?_, fun k hk r' h1 => ?_, fun k hk r' h1 c' h2 => ?_, fun k hk r' h1 c' h2 m' h3 => ?_⟩
  all_goals rw [setN_len] at hk
  · unfold setN; rw [rd_set']
    split
    · simp only [List.length_set]; exact h.n1 j hj
    · exact h.n1 k hk
  · unfold setN; rw [rd_set']
    split
    · simp only [rd_set']
      split
      · exact hv
      · exact h.n2 j hj x' hx'
    · exact h.n2 k hk x' hx'
  · rw [setN_bg]; exact h.b1 k hk
  · rw [setN_bg]; exact h.b2 k hk r' h1
  · rw [setN_sg]; exact h.b3 k hk r' h1 c' h2
  · rw [setN_sg]; exact h.b4 k hk r' h1 c' h2 m' h3
theorem NS_neg {X : List Chart_set} {x : Int} {i k : Nat} (h : x < 0) : NS X x i k ↔ NS X 0 i k := by
  unfold NS
  have : rd (rd X (k : Int)).names x = rd (rd X (k : Int)).names 0 := by simp [rd, Int.toNat_of_nonpos (Int.le_of_lt h)]
  rw [this]
theorem setN_NS {g : Grammar} {X : List Chart_set} (h : Shp g X) {j x i : Nat} (hj : j < X.length) (hx : x < g.Names.length) (hi : i < 64) (y i' k : Nat) :
    NS (setN X j x (ior .u64 (rd (rd X (j : Int)).names (x : Int)) (ishl .u64 1 (i : Int)))) (y : Int) i' k ↔ NS X (y : Int) i' k ∨ (k = j ∧ y = x ∧ i' = i) := by
  unfold NS setN
  rw [rd_set']
  by_cases e : j = k
  · subst e
    rw [if_pos ⟨rfl, hj⟩]
    show bit (rd (List.set _ _ _) _) _ = true ↔ _
    rw [rd_set']
    by_cases e2 : x = y
    · subst e2
      rw [if_pos ⟨rfl, by rw [h.n1 j hj]; exact hx⟩, or_bit (h.n2 j hj x hx) hi]
      simp
    · rw [if_neg (fun z => e2 z.1)]
      exact ⟨.inl, fun z => z.elim id fun y => (e2 y.2.1.symm).elim⟩
  · rw [if_neg (fun z => e z.1)]
    exact ⟨.inl, fun z => z.elim id fun y => (e y.1.symm).elim⟩

/-! ## What reaches -/
abbrev wf (w : List Int) : Nat → Int := fun k => rd w (k : Int)
/-- What stands fast: a grammar that may be, its levels, a word. -/
structure CX (g : Grammar) (xs w : List Int) : Prop where
  may : mayP g
  xl : xs.length = g.Names.length
  lv : LvS g.Names.length g.Rules (rd xs)
  l0 : ∀ y : Int, 0 ≤ y → y < g.Names.length → 0 ≤ rd xs y
  l1 : ∀ y : Int, 0 ≤ y → y < g.Names.length → rd xs y ≤ (g.Names.length : Int) - 1
  wl : w.length ≤ 32
  wb : ∀ k : Nat, k < w.length → 0 ≤ rd w (k : Int) ∧ rd w (k : Int) < 256
theorem CX.nl {g : Grammar} {xs w : List Int} (h : CX g xs w) : g.Names.length ≤ 64 := h.may.1.2.1
theorem CX.rl {g : Grammar} {xs w : List Int} (h : CX g xs w) : g.Rules.length ≤ 256 := h.may.2.2.2.2.1
theorem CX.cl {g : Grammar} {xs w : List Int} (h : CX g xs w) {r : Nat} (hr : r < g.Rules.length) : nc g r ≤ 8 := ((may_bd h.may).2 _ (rd_mem' hr)).1
theorem CX.ql {g : Grammar} {xs w : List Int} (h : CX g xs w) {r c : Nat} (hr : r < g.Rules.length) (hc : c < nc g r) : (sq g r c).length ≤ 64 := ((may_bd h.may).2 _ (rd_mem' hr)).2 _ (rd_mem' hc)
theorem CX.hd {g : Grammar} {xs w : List Int} (h : CX g xs w) {r : Nat} (hr : r < g.Rules.length) : 0 ≤ (rd g.Rules (r : Int)).Head ∧ (rd g.Rules (r : Int)).Head < g.Names.length := (h.lv _ (rd_mem' hr)).1
theorem CX.sy {g : Grammar} {xs w : List Int} (h : CX g xs w) {r c m : Nat} (hr : r < g.Rules.length) (hc : c < nc g r) (hm : m < (sq g r c).length) : (rd (sq g r c) (m : Int)).Name < g.Names.length := by
  by_cases h0 : 0 ≤ (rd (sq g r c) (m : Int)).Name
  · exact ((h.lv _ (rd_mem' hr)).2 _ (rd_mem' hc) _ (rd_mem' hm) h0).1
  · have := h.may.1.1; omega

/-- What comes to a place in one step. -/
def RC (X : List Chart_set) (g : Grammar) (w : List Int) (r c m i j : Nat) : Prop :=
  (m = 0 ∧ i = j) ∨ ∃ m', m = m' + 1 ∧ ∃ k, i ≤ k ∧ k ≤ j ∧ BS X r c m' i k ∧ SymS (NS X) (wf w) (rd (sq g r c) (m' : Int)) k j
theorem iff1 {p : Prop} [Decidable p] {a b : Int} (hab : a ≠ b) (q : Bool) : ((if q = true then a else b) = a) ↔ q = true := by
  cases q <;> simp [hab.symm]
theorem reaches_spec (K : Nat) (hK : 200000 ≤ K) (g : Grammar) (xs w : List Int) (X : List Chart_set) (hx : CX g xs w) (h : Shp g X) (hl : X.length = w.length + 1) (r c m i : Nat) (hr : r < g.Rules.length) (hc : c < nc g r) (hm : m ≤ (sq g r c).length) (hi : i ≤ w.length) :
    ∃ b, chart_Engine_reaches K ⟨g, xs, w, X⟩ r c m i = some b ∧ (b = true ↔ RC X g w r c m i w.length) := by
  have q1 := hx.wl
  have q2 := hx.rl
  have q3 := hx.cl hr
  have q4 := hx.ql hr hc
  unfold chart_Engine_reaches
  dsimp only
  cases m with
  | zero =>
    rw [if_pos (show ((0 : Nat) : Int) = 0 from rfl)]
    refine ⟨_, rfl, ?_⟩
    simp only [decide_eq_true_eq, RC]
    constructor
    · intro e; exact .inl ⟨trivial, by omega⟩
    · rintro (⟨_, e⟩ | ⟨m', e, _⟩)
      · rw [e]
      · omega
  | succ m =>
    have em : IntKind.wrap .i64 (((m + 1 : Nat) : Int) - 1) = (m : Int) := by rw [wr (by omega) (by omega)]; omega
    have hc' : (c : Int) < ((rd g.Rules (r : Int)).Conj.length : Int) := by have : c < (rd g.Rules (r : Int)).Conj.length := hc; omega
    have hm' : (m : Int) < ((rd (rd g.Rules (r : Int)).Conj (c : Int)).Seq.length : Int) := by have : m < (rd (rd g.Rules (r : Int)).Conj (c : Int)).Seq.length := hm; omega
    rw [if_neg (by omega)]
    simp only [em]
    rw [if_pos (by omega), if_pos (by omega), if_pos (by omega), if_pos hc', if_pos (by omega), if_pos hm']
    have hRC : RC X g w r c (m + 1) i w.length ↔ ∃ k, i ≤ k ∧ k ≤ w.length ∧ BS X r c m i k ∧ SymS (NS X) (wf w) (rd (sq g r c) (m : Int)) k w.length := by
      constructor
      · rintro (⟨e, _⟩ | ⟨m', e, hh⟩)
        · omega
        · have : m' = m := by omega
          subst this; exact hh
      · intro hh; exact .inr ⟨m, rfl, hh⟩
    rw [hRC]
    by_cases hn : (rd (sq g r c) (m : Int)).Name < 0
    · rw [if_pos hn]
      have hS : ∀ k, SymS (NS X) (wf w) (rd (sq g r c) (m : Int)) k w.length ↔ (w.length = k + 1 ∧ (rd (sq g r c) (m : Int)).Lo ≤ wf w k ∧ wf w k ≤ (rd (sq g r c) (m : Int)).Hi) := fun k => by unfold SymS; rw [if_neg (by omega)]
      by_cases hlt : (i : Int) < (w.length : Int)
      · have ew : IntKind.wrap .i64 ((w.length : Int) - 1) = ((w.length - 1 : Nat) : Int) := by rw [wr (by omega) (by omega)]; omega
        have hb := hx.wb (w.length - 1) (by omega)
        rw [if_pos hlt]
        simp only [ew]
        rw [if_pos (by omega), if_pos (by omega), wr (by omega) (by omega)]
        by_cases h1 : (rd (sq g r c) (m : Int)).Lo ≤ rd w ((w.length - 1 : Nat) : Int)
        · rw [if_pos h1]
          by_cases h2 : rd w ((w.length - 1 : Nat) : Int) ≤ (rd (sq g r c) (m : Int)).Hi
          · have s1 := h.b1 (w.length - 1) (by omega)
            have s2 := h.b2 (w.length - 1) (by omega) r hr
            have s3 := h.b3 (w.length - 1) (by omega) r hr c hc
            unfold sg at s3
            rw [if_pos h2, if_pos (by omega), if_pos (by rw [s1]; omega), if_pos (by rw [s2]; omega), if_pos (by rw [s3]; omega), if_pos (by omega)]
            rw [Option.bind_some]
            refine ⟨_, rfl, ?_⟩
            have s4 := h.b4 (w.length - 1) (by omega) r hr c hc m (by omega)
            unfold sg at s4
            rw [shr1 s4 i, decide_eq_true_eq, iff1 (p := True) (by decide)]
            constructor
            · intro hbit
              exact ⟨w.length - 1, by omega, by omega, hbit, (hS _).2 ⟨by omega, h1, h2⟩⟩
            · rintro ⟨k, k1, k2, k3, k4⟩
              have := ((hS k).1 k4).1
              have ek : k = w.length - 1 := by omega
              subst ek; exact k3
          · rw [if_neg h2, Option.bind_some]
            refine ⟨_, rfl, ?_⟩
            constructor
            · intro e; cases e
            · rintro ⟨k, k1, k2, k3, k4⟩
              obtain ⟨p1, p2, p3⟩ := (hS k).1 k4
              have ek : k = w.length - 1 := by omega
              subst ek; exact (h2 p3).elim
        · rw [if_neg h1, Option.bind_some]
          refine ⟨_, rfl, ?_⟩
          constructor
          · intro e; cases e
          · rintro ⟨k, k1, k2, k3, k4⟩
            obtain ⟨p1, p2, p3⟩ := (hS k).1 k4
            have ek : k = w.length - 1 := by omega
            subst ek; exact (h1 p2).elim
      · rw [if_neg hlt, Option.bind_some]
        refine ⟨_, rfl, ?_⟩
        constructor
        · intro e; cases e
        · rintro ⟨k, k1, k2, k3, k4⟩
          have := ((hS k).1 k4).1
          omega
    · rw [if_neg hn]
      have hsy := hx.sy hr hc (show m < (sq g r c).length by omega)
      have hS : ∀ k, SymS (NS X) (wf w) (rd (sq g r c) (m : Int)) k w.length ↔ NS X (rd (sq g r c) (m : Int)).Name k w.length := fun k => by unfold SymS; rw [if_pos (by omega)]
      obtain ⟨s, es⟩ : ∃ s : Nat, (rd (sq g r c) (m : Int)).Name = (s : Int) := ⟨(rd (sq g r c) (m : Int)).Name.toNat, by omega⟩
      have key := rounds (σ := Int) (ρ := Int ⊕ Bool) (L := chart_Engine_reaches.l0 K ⟨g, xs, w, X⟩ r c ((m + 1 : Nat) : Int) i)
        (fun k => ∃ q : Nat, k = (q : Int) ∧ i ≤ q ∧ q ≤ w.length + 1 ∧ ∀ k : Nat, i ≤ k → k < q → ¬ (BS X r c m i k ∧ SymS (NS X) (wf w) (rd (sq g r c) (m : Int)) k w.length)) (fun k => (w.length + 1 - k.toNat))
        (fun ρ => (ρ = .inr true ∧ ∃ k, i ≤ k ∧ k ≤ w.length ∧ BS X r c m i k ∧ SymS (NS X) (wf w) (rd (sq g r c) (m : Int)) k w.length) ∨ (∃ q, ρ = .inl q) ∧ ¬ ∃ k, i ≤ k ∧ k ≤ w.length ∧ BS X r c m i k ∧ SymS (NS X) (wf w) (rd (sq g r c) (m : Int)) k w.length) ?_ K (i : Int) ⟨i, rfl, Nat.le_refl _, by omega, fun k h1 h2 => by omega⟩ (by omega)
      · obtain ⟨ρ, e1, hρ⟩ := key
        rw [e1]
        rcases hρ with ⟨e, hh⟩ | ⟨⟨q, e⟩, hh⟩
        · subst e
          exact ⟨true, rfl, by simpa using hh⟩
        · subst e
          exact ⟨false, rfl, ⟨fun e => (by cases e), fun e => (hh e).elim⟩⟩
      · rintro k mm ⟨q, rfl, k1, k2, k3⟩
        simp only [chart_Engine_reaches.l0]
        by_cases hq : (q : Int) ≤ (w.length : Int)
        · have s1 := h.b1 q (by omega)
          have s2 := h.b2 q (by omega) r hr
          have s3 := h.b3 q (by omega) r hr c hc
          have s4 := h.b4 q (by omega) r hr c hc m (by omega)
          unfold sg at s3 s4
          have n1 := h.n1 w.length (by omega)
          have n2 := h.n2 w.length (by omega) s (by omega)
          have e1 : IntKind.wrap .i64 ((q : Int) + 1) = ((q + 1 : Nat) : Int) := by rw [wr (by omega) (by omega)]; omega
          simp only [em, e1]
          rw [if_pos hq, if_pos (by omega), if_pos (by omega), if_pos (by rw [s1]; omega), if_pos (by rw [s2]; omega), if_pos (by rw [s3]; omega), if_pos (by omega), shr1 s4 i]
          have no : ∀ p : Prop, (¬ (BS X r c m i q ∧ SymS (NS X) (wf w) (rd (sq g r c) (m : Int)) q w.length)) → ∃ s', (∃ q' : Nat, s' = (q' : Int) ∧ i ≤ q' ∧ q' ≤ w.length + 1 ∧ ∀ k : Nat, i ≤ k → k < q' → ¬ (BS X r c m i k ∧ SymS (NS X) (wf w) (rd (sq g r c) (m : Int)) k w.length)) ∧ (w.length + 1 - s'.toNat) < (w.length + 1 - (q : Int).toNat) ∧ chart_Engine_reaches.l0 K ⟨g, xs, w, X⟩ r c ((m + 1 : Nat) : Int) i mm ((q + 1 : Nat) : Int) = chart_Engine_reaches.l0 K ⟨g, xs, w, X⟩ r c ((m + 1 : Nat) : Int) i mm s' := fun _ hno => by
            refine ⟨((q + 1 : Nat) : Int), ⟨q + 1, rfl, by omega, by omega, fun k h1 h2 => ?_⟩, by omega, rfl⟩
            by_cases ek : k = q
            · subst ek; exact hno
            · exact k3 k h1 (by omega)
          by_cases hb : bit (rd (sg X q r c) (m : Int)) i = true
          · have hb' := hb
            unfold sg at hb'
            rw [if_pos hb', if_pos rfl, if_pos (by omega), if_pos (by show 0 ≤ (rd (sq g r c) (m : Int)).Name; omega), if_pos (by show (rd (sq g r c) (m : Int)).Name < _; rw [n1]; omega)]
            have ebit : (iand .u64 (ishr .u64 (rd ((rd X (w.length : Int)).names) ((rd ((rd ((rd g.Rules (r : Int)).Conj) (c : Int)).Seq) (m : Int)).Name)) (q : Int)) 1) = if bit (rd ((rd X (w.length : Int)).names) (rd (sq g r c) (m : Int)).Name) q = true then 1 else 0 := by
              show (iand .u64 (ishr .u64 (rd ((rd X (w.length : Int)).names) (rd (sq g r c) (m : Int)).Name) (q : Int)) 1) = _
              rw [es]; exact shr1 n2 q
            rw [ebit]
            by_cases hb2 : bit (rd ((rd X (w.length : Int)).names) (rd (sq g r c) (m : Int)).Name) q = true
            · rw [if_pos hb2, if_pos rfl]
              exact .inl ⟨_, rfl, .inl ⟨rfl, q, k1, by omega, hb, (hS q).2 hb2⟩⟩
            · rw [if_neg hb2, if_neg (by decide)]
              exact .inr (no True fun hh => hb2 ((hS q).1 hh.2))
          · have hb' := hb
            unfold sg at hb'
            rw [if_neg hb', if_neg (by decide)]
            exact .inr (no True fun hh => hb hh.1)
        · rw [if_neg hq]
          refine .inl ⟨_, rfl, .inr ⟨⟨_, rfl⟩, ?_⟩⟩
          rintro ⟨k, h1, h2, h3, h4⟩
          exact k3 k h1 (by omega) ⟨h3, h4⟩
end Go.Proofs.Ytpjhcllohagjoaa

/-! PChB -/
namespace Go.Proofs.Ytpjhcllohagjoaa
open S
set_option linter.unusedVariables false
set_option linter.unusedSimpArgs false
set_option maxRecDepth 10000

theorem RC_seq {g : Grammar} {X : List Chart_set} {w : List Int} {r c m i j : Nat} (hm : m ≤ (sq g r c).length) (hij : i ≤ j) (hp : ∀ m', m = m' + 1 → ∀ k, i ≤ k → k ≤ j → (BS X r c m' i k ↔ SeqS (NS X) (wf w) ((sq g r c).take m') i k)) : RC X g w r c m i j ↔ SeqS (NS X) (wf w) ((sq g r c).take m) i j := by
  cases m with
  | zero =>
    constructor
    · rintro (⟨_, e⟩ | ⟨m', e, _⟩)
      · exact e
      · omega
    · intro e; exact .inl ⟨rfl, e⟩
  | succ m =>
    rw [take_succ_rd (by omega), SeqS_snoc]
    constructor
    · rintro (⟨e, _⟩ | ⟨m', e, k, h1, h2, h3, h4⟩)
      · omega
      · have : m' = m := by omega
        subst this
        exact ⟨k, h1, h2, (hp m' rfl k h1 h2).1 h3, h4⟩
    · rintro ⟨k, h1, h2, h3, h4⟩
      exact .inr ⟨m, rfl, k, h1, h2, (hp m rfl k h1 h2).2 h3, h4⟩

/-- Begun bits of the last set that may differ: those from i on of conjuncts in Q. -/
structure Fr2 (X X' : List Chart_set) (j i : Nat) (Q : Nat → Nat → Prop) : Prop where
  len : X'.length = X.length
  nm : NS X' = NS X
  bs : ∀ r c m i' k, ¬ (k = j ∧ i' = i ∧ Q r c) → (BS X' r c m i' k ↔ BS X r c m i' k)
abbrev Full (g : Grammar) (X : List Chart_set) (N : Sp) (w : List Int) (i j r c : Nat) : Prop := ∀ m, m ≤ (sq g r c).length → (BS X r c m i j ↔ SeqS N (wf w) ((sq g r c).take m) i j)
abbrev Snd (g : Grammar) (X : List Chart_set) (N : Sp) (w : List Int) (i j r c : Nat) : Prop := ∀ m, m ≤ (sq g r c).length → BS X r c m i j → SeqS N (wf w) ((sq g r c).take m) i j
/-- Conjuncts of Q were gone over. -/
structure Acc (g : Grammar) (w : List Int) (i : Nat) (X X' : List Chart_set) (b : Bool) (Q : Nat → Nat → Prop) : Prop where
  shp : Shp g X'
  fr : Fr2 X X' w.length i Q
  full : ∀ r c, Q r c → Full g X' (NS X) w i w.length r c
  same : b = false → X' = X
  still : (∀ r c, Q r c → Full g X (NS X) w i w.length r c) → b = false
theorem Acc.refl {g : Grammar} {w : List Int} {i : Nat} {X : List Chart_set} (h : Shp g X) : Acc g w i X X false fun _ _ => False :=
  ⟨h, ⟨rfl, rfl, fun _ _ _ _ _ _ => Iff.rfl⟩, fun _ _ x => x.elim, fun _ => rfl, fun _ => rfl⟩
theorem Acc.step {g : Grammar} {w : List Int} {i : Nat} {X X1 X2 : List Chart_set} {b1 b2 : Bool} {Q : Nat → Nat → Prop} {r c : Nat} (h1 : Acc g w i X X1 b1 Q) (h2 : Acc g w i X1 X2 b2 fun r' c' => r' = r ∧ c' = c) (hn : ¬ Q r c) : Acc g w i X X2 (b1 || b2) fun r' c' => Q r' c' ∨ (r' = r ∧ c' = c) := by
  have e : NS X1 = NS X := h1.fr.nm
  refine ⟨h2.shp, ⟨h2.fr.len.trans h1.fr.len, h2.fr.nm.trans e, fun r' c' m i' k hh => ?_⟩, fun r' c' hq m hm => ?_, fun hb => ?_, fun hf => ?_⟩
  · rw [h2.fr.bs r' c' m i' k (fun x => hh ⟨x.1, x.2.1, .inr x.2.2⟩), h1.fr.bs r' c' m i' k (fun x => hh ⟨x.1, x.2.1, .inl x.2.2⟩)]
  · rcases hq with hq | hq
    · rw [h2.fr.bs r' c' m i w.length (fun x => hn (x.2.2.1 ▸ x.2.2.2 ▸ hq))]
      exact h1.full r' c' hq m hm
    · rw [← e]; exact h2.full r' c' hq m hm
  · cases b1 <;> cases b2 <;> simp at hb
    rw [h2.same rfl, h1.same rfl]
  · have e1 := h1.still fun r' c' hq => hf r' c' (.inl hq)
    have e2 := h1.same e1
    subst e2
    rw [e1, h2.still fun r' c' hq => hf r' c' (.inr hq)]; rfl
theorem Acc.congr {g : Grammar} {w : List Int} {i : Nat} {X X' : List Chart_set} {b : Bool} {Q Q' : Nat → Nat → Prop} (h : Acc g w i X X' b Q) (e : ∀ r c, Q r c ↔ Q' r c) : Acc g w i X X' b Q' := by
  have : Q = Q' := by funext r c; exact propext (e r c)
  rw [← this]; exact h

theorem conj_spec (K : Nat) (hK : 200000 ≤ K) (g : Grammar) (xs w : List Int) (X : List Chart_set) (hx : CX g xs w) (h : Shp g X) (hl : X.length = w.length + 1) (r c i : Nat) (hr : r < g.Rules.length) (hc : c < nc g r) (hi : i ≤ w.length)
    (hpast : ∀ k, i ≤ k → k < w.length → Full g X (NS X) w i k r c) (hsnd : Snd g X (NS X) w i w.length r c) :
    ∃ b X', chart_Engine_conj K ⟨g, xs, w, X⟩ r c i = some (b, ⟨g, xs, w, X'⟩) ∧ Acc g w i X X' b fun r' c' => r' = r ∧ c' = c := by
  have q1 := hx.wl
  have q2 := hx.rl
  have q3 := hx.cl hr
  have q4 := hx.ql hr hc
  have s1 := h.b1 w.length (by omega)
  have s2 := h.b2 w.length (by omega) r hr
  have s3 := h.b3 w.length (by omega) r hr c hc
  have s3' := s3
  unfold sg at s3'
  unfold chart_Engine_conj
  rw [if_pos (by show (w.length : Int) < X.length; omega), if_pos (by omega), if_pos (by show (r : Int) < _; rw [s1]; omega), if_pos (by omega), if_pos (by show (c : Int) < _; rw [s2]; omega)]
  have key := rounds (σ := List Chart_set × Bool × Int) (ρ := List Chart_set × Bool × Int) (L := chart_Engine_conj.l0 K ⟨g, xs, w, X⟩ r c i)
    (fun s => ∃ q : Nat, s.2.2 = (q : Int) ∧ q ≤ (sq g r c).length + 1 ∧ Shp g s.1 ∧ Fr2 X s.1 w.length i (fun r' c' => r' = r ∧ c' = c) ∧ (∀ m, m < q → (BS s.1 r c m i w.length ↔ SeqS (NS X) (wf w) ((sq g r c).take m) i w.length)) ∧
      (∀ m, q ≤ m → (BS s.1 r c m i w.length ↔ BS X r c m i w.length)) ∧ (s.2.1 = false → s.1 = X) ∧ ((∀ m, m ≤ (sq g r c).length → (BS X r c m i w.length ↔ SeqS (NS X) (wf w) ((sq g r c).take m) i w.length)) → s.2.1 = false))
    (fun s => (sq g r c).length + 1 - s.2.2.toNat)
    (fun ρ => Acc g w i X ρ.1 ρ.2.1 fun r' c' => r' = r ∧ c' = c) ?_ K (X, false, 0) ⟨0, rfl, by omega, h, ⟨rfl, rfl, fun _ _ _ _ _ _ => Iff.rfl⟩, fun m hm => by omega, fun m _ => Iff.rfl, fun _ => rfl, fun _ => rfl⟩ (by simp; omega)
  · obtain ⟨⟨Y, b, t⟩, e1, hρ⟩ := key
    rw [e1]
    exact ⟨b, Y, rfl, hρ⟩
  · rintro ⟨Y, b, t⟩ mm ⟨q, rfl, k1, k2, k3, k4, k5, k6, k7⟩
    simp only at k2 k3 k4 k5 k6 k7
    have yl : Y.length = w.length + 1 := k3.len.trans hl
    have y1 := k2.b1 w.length (by omega)
    have y2 := k2.b2 w.length (by omega) r hr
    have y3 := k2.b3 w.length (by omega) r hr c hc
    have y3' := y3
    unfold sg at y3'
    simp only [chart_Engine_conj.l0]
    by_cases hq : q ≤ (sq g r c).length
    · have y4 := k2.b4 w.length (by omega) r hr c hc q hq
      have y4' := y4
      unfold sg at y4'
      have e1 : IntKind.wrap .i64 ((q : Int) + 1) = ((q + 1 : Nat) : Int) := by rw [wr (by omega) (by omega)]; omega
      rw [if_pos (by show (q : Int) < _; rw [s3']; omega), if_pos (by show (w.length : Int) < _; omega), if_pos (by show (r : Int) < _; rw [y1]; omega), if_pos (by show (c : Int) < _; rw [y2]; omega), if_pos (by omega), if_pos (by show (q : Int) < _; rw [y3']; omega), if_pos (by omega)]
      simp only [e1]
      rw [shr1 y4' i]
      have hseq : RC Y g w r c q i w.length ↔ SeqS (NS X) (wf w) ((sq g r c).take q) i w.length := by
        rw [← k3.nm]
        refine RC_seq hq hi fun m' em k g1 g2 => ?_
        rw [k3.nm]
        by_cases ek : k = w.length
        · subst ek; exact k4 m' (by omega)
        · rw [k3.bs r c m' i k (fun x => ek x.1)]; exact hpast k g1 (by omega) m' (by omega)
      by_cases hb : bit (rd (sg Y w.length r c) (q : Int)) i = true
      · have hb' := hb
        unfold sg at hb'
        rw [if_pos hb', if_neg (by decide)]
        refine .inr ⟨(Y, b, ((q + 1 : Nat) : Int)), ⟨q + 1, rfl, by omega, k2, k3, fun m hm => ?_, fun m hm => k5 m (by omega), k6, k7⟩, by simp; omega, rfl⟩
        by_cases em : m = q
        · subst em
          exact ⟨fun _ => hsnd m hq ((k5 m (Nat.le_refl _)).1 hb), fun _ => hb⟩
        · exact k4 m (by omega)
      · have hb' := hb
        unfold sg at hb'
        rw [if_neg hb', if_pos rfl]
        obtain ⟨b2, er, hb2⟩ := reaches_spec K hK g xs w Y hx k2 yl r c q i hr hc hq hi
        erw [er, Option.bind_some]
        have hi64 : i < 64 := by omega
        cases b2 with
        | true =>
          rw [if_pos rfl]
          have hS := hseq.1 (hb2.1 rfl)
          have hBS := setB_BS k2 (j := w.length) (m := q) (i := i) (by omega) hr hc hq hi64
          refine .inr ⟨(setB Y w.length r c q (ior .u64 (rd (sg Y w.length r c) (q : Int)) (ishl .u64 1 (i : Int))), true, ((q + 1 : Nat) : Int)), ⟨q + 1, rfl, by omega, setB_shp k2 (by omega) hr hc (or_ok y4 hi64), ⟨(setB_len ..).trans k3.len, (setB_NS ..).trans k3.nm, fun r' c' m' i' k hh => ?_⟩, fun m hm => ?_, fun m hm => ?_, fun e => (by cases e), fun hf => ?_⟩, by simp; omega, rfl⟩
          · rw [hBS, k3.bs r' c' m' i' k hh]
            exact ⟨fun x => x.elim id fun y => (hh ⟨y.1, y.2.2.2.2, y.2.1, y.2.2.1⟩).elim, .inl⟩
          · rw [hBS]
            by_cases em : m = q
            · subst em; exact ⟨fun _ => hS, fun _ => .inr ⟨rfl, rfl, rfl, rfl, rfl⟩⟩
            · rw [k4 m (by omega)]
              exact ⟨fun x => x.elim id fun y => (em y.2.2.2.1).elim, .inl⟩
          · rw [hBS, k5 m (by omega)]
            exact ⟨fun x => x.elim id fun y => (by have := y.2.2.2.1; omega), .inl⟩
          · exact (hb ((k5 q (Nat.le_refl _)).2 ((hf q hq).2 hS))).elim
        | false =>
          rw [if_neg (by decide)]
          have hS : ¬ SeqS (NS X) (wf w) ((sq g r c).take q) i w.length := fun hs => by cases hb2.2 (hseq.2 hs)
          refine .inr ⟨(Y, b, ((q + 1 : Nat) : Int)), ⟨q + 1, rfl, by omega, k2, k3, fun m hm => ?_, fun m hm => k5 m (by omega), k6, k7⟩, by simp; omega, rfl⟩
          by_cases em : m = q
          · subst em
            exact ⟨fun hh => (hb hh).elim, fun hh => (hS hh).elim⟩
          · exact k4 m (by omega)
    · rw [if_neg (by show ¬ (q : Int) < _; rw [s3']; omega)]
      refine .inl ⟨_, rfl, k2, k3, fun r' c' hq' m hm => ?_, k6, fun hf => k7 (hf r c ⟨rfl, rfl⟩)⟩
      obtain ⟨rfl, rfl⟩ := hq'
      exact k4 m (by omega)

/-! ## A pass -/
theorem pass_l1 (K : Nat) (hK : 200000 ≤ K) (g : Grammar) (xs w : List Int) (X : List Chart_set) (hx : CX g xs w) (hl : X.length = w.length + 1) (r i : Nat) (neg : Bool) (hr : r < g.Rules.length) (hi : i ≤ w.length) (Q0 : Nat → Nat → Prop) (hQ0 : ∀ c, ¬ Q0 r c)
    (hpast : ∀ c, c < nc g r → (rd (rd g.Rules (r : Int)).Conj (c : Int)).Neg = neg → ∀ k, i ≤ k → k < w.length → Full g X (NS X) w i k r c) (hsnd : ∀ c, c < nc g r → (rd (rd g.Rules (r : Int)).Conj (c : Int)).Neg = neg → Snd g X (NS X) w i w.length r c)
    (e : Chart_Engine) (he : e.g = g) (X0 : List Chart_set) (b0 : Bool) (h0 : Acc g w i X X0 b0 Q0) :
    ∃ X' b t, chart_Engine_pass.l1 K e i neg r K (⟨g, xs, w, X0⟩, b0, 0) = some (⟨g, xs, w, X'⟩, b, t) ∧ Acc g w i X X' b fun r' c' => Q0 r' c' ∨ (r' = r ∧ c' < nc g r ∧ (rd (rd g.Rules (r : Int)).Conj (c' : Int)).Neg = neg) := by
  have q2 := hx.rl
  have q3 := hx.cl hr
  have key := rounds (σ := Chart_Engine × Bool × Int) (ρ := Chart_Engine × Bool × Int) (L := chart_Engine_pass.l1 K e i neg r)
    (fun s => ∃ (q : Nat) (Y : List Chart_set), s.2.2 = (q : Int) ∧ s.1 = ⟨g, xs, w, Y⟩ ∧ q ≤ nc g r ∧ Acc g w i X Y s.2.1 fun r' c' => Q0 r' c' ∨ (r' = r ∧ c' < q ∧ (rd (rd g.Rules (r : Int)).Conj (c' : Int)).Neg = neg))
    (fun s => nc g r - s.2.2.toNat)
    (fun ρ => ∃ Y, ρ.1 = ⟨g, xs, w, Y⟩ ∧ Acc g w i X Y ρ.2.1 fun r' c' => Q0 r' c' ∨ (r' = r ∧ c' < nc g r ∧ (rd (rd g.Rules (r : Int)).Conj (c' : Int)).Neg = neg)) ?_ K (⟨g, xs, w, X0⟩, b0, 0) ⟨0, X0, rfl, rfl, Nat.zero_le _, h0.congr fun r' c' => ⟨.inl, fun x => x.elim id fun y => by omega⟩⟩ (by simp; omega)
  · obtain ⟨⟨E, b, t⟩, e1, Y, e2, hρ⟩ := key
    simp only at e2; subst e2
    exact ⟨Y, b, t, e1, hρ⟩
  · rintro ⟨E, b, t⟩ mm ⟨q, Y, rfl, e2, k1, k2⟩
    simp only at e2 k2; subst e2
    simp only [chart_Engine_pass.l1]
    rw [he]
    by_cases hq : q < nc g r
    · have e1 : IntKind.wrap .i64 ((q : Int) + 1) = ((q + 1 : Nat) : Int) := by rw [wr (by omega) (by omega)]; omega
      rw [if_pos (by show (q : Int) < ((nc g r : Nat) : Int); omega), if_pos (by omega)]
      simp only [e1]
      by_cases hn : (rd (rd g.Rules (r : Int)).Conj (q : Int)).Neg = neg
      · rw [if_pos hn]
        have hno : ¬ (Q0 r q ∨ (r = r ∧ q < q ∧ (rd (rd g.Rules (r : Int)).Conj (q : Int)).Neg = neg)) := fun x => x.elim (hQ0 q) fun y => by omega
        have hbs : ∀ m k, (BS Y r q m i k ↔ BS X r q m i k) := fun m k => k2.fr.bs r q m i k fun x => hno x.2.2
        obtain ⟨b2, Z, ec, hc2⟩ := conj_spec K hK g xs w Y hx k2.shp (k2.fr.len.trans hl) r q i hr hq hi (fun k g1 g2 m hm => by rw [hbs, k2.fr.nm]; exact hpast q hq hn k g1 g2 m hm) (fun m hm hh => by rw [k2.fr.nm]; exact hsnd q hq hn m hm ((hbs m w.length).1 hh))
        rw [ec, Option.bind_some]
        have ha := Acc.step k2 hc2 hno
        have ha' : Acc g w i X Z (b || b2) fun r' c' => Q0 r' c' ∨ (r' = r ∧ c' < q + 1 ∧ (rd (rd g.Rules (r : Int)).Conj (c' : Int)).Neg = neg) := ha.congr fun r' c' => by
          constructor
          · rintro ((x | ⟨x1, x2, x3⟩) | ⟨x1, x2⟩)
            · exact .inl x
            · exact .inr ⟨x1, by omega, x3⟩
            · exact .inr ⟨x1, by omega, by rw [x2]; exact hn⟩
          · rintro (x | ⟨x1, x2, x3⟩)
            · exact .inl (.inl x)
            · by_cases ec' : c' = q
              · exact .inr ⟨x1, ec'⟩
              · exact .inl (.inr ⟨x1, by omega, x3⟩)
        cases b2 with
        | true =>
          rw [if_pos rfl]
          exact .inr ⟨(⟨g, xs, w, Z⟩, true, ((q + 1 : Nat) : Int)), ⟨q + 1, Z, rfl, rfl, hq, by simpa using ha'⟩, by simp; omega, rfl⟩
        | false =>
          rw [if_neg (by simp)]
          exact .inr ⟨(⟨g, xs, w, Z⟩, b, ((q + 1 : Nat) : Int)), ⟨q + 1, Z, rfl, rfl, hq, by simpa using ha'⟩, by simp; omega, rfl⟩
      · rw [if_neg hn]
        exact .inr ⟨(⟨g, xs, w, Y⟩, b, ((q + 1 : Nat) : Int)), ⟨q + 1, Y, rfl, rfl, hq, k2.congr fun r' c' => ⟨fun x => x.imp id fun y => ⟨y.1, by omega, y.2.2⟩, fun x => x.imp id fun y => ⟨y.1, by
          by_cases ec : c' = q
          · rw [ec] at y; exact (hn y.2.2).elim
          · omega, y.2.2⟩⟩⟩, by simp; omega, rfl⟩
    · rw [if_neg (by show ¬ (q : Int) < ((nc g r : Nat) : Int); omega)]
      have : q = nc g r := by omega
      subst this
      exact .inl ⟨_, rfl, Y, rfl, k2⟩
/-- Conjuncts of a level that are negated, or are not. -/
def InL (g : Grammar) (xs : List Int) (t : Int) (neg : Bool) (r c : Nat) : Prop := r < g.Rules.length ∧ c < nc g r ∧ rd xs (rd g.Rules (r : Int)).Head = t ∧ (rd (rd g.Rules (r : Int)).Conj (c : Int)).Neg = neg
theorem pass_spec (K : Nat) (hK : 200000 ≤ K) (g : Grammar) (xs w : List Int) (X : List Chart_set) (hx : CX g xs w) (h : Shp g X) (hl : X.length = w.length + 1) (t : Int) (i : Nat) (neg : Bool) (hi : i ≤ w.length)
    (hpast : ∀ r c, InL g xs t neg r c → ∀ k, i ≤ k → k < w.length → Full g X (NS X) w i k r c) (hsnd : ∀ r c, InL g xs t neg r c → Snd g X (NS X) w i w.length r c) :
    ∃ b X', chart_Engine_pass K ⟨g, xs, w, X⟩ t i neg = some (b, ⟨g, xs, w, X'⟩) ∧ Acc g w i X X' b (InL g xs t neg) := by
  have q2 := hx.rl
  have key := rounds (σ := Chart_Engine × Bool × Int) (ρ := Chart_Engine × Bool × Int) (L := chart_Engine_pass.l0 K ⟨g, xs, w, X⟩ t i neg)
    (fun s => ∃ (q : Nat) (Y : List Chart_set), s.2.2 = (q : Int) ∧ s.1 = ⟨g, xs, w, Y⟩ ∧ q ≤ g.Rules.length ∧ Acc g w i X Y s.2.1 fun r' c' => r' < q ∧ InL g xs t neg r' c')
    (fun s => g.Rules.length - s.2.2.toNat)
    (fun ρ => ∃ Y, ρ.1 = ⟨g, xs, w, Y⟩ ∧ Acc g w i X Y ρ.2.1 (InL g xs t neg)) ?_ K (⟨g, xs, w, X⟩, false, 0) ⟨0, X, rfl, rfl, Nat.zero_le _, (Acc.refl h).congr fun r' c' => ⟨fun x => x.elim, fun x => by omega⟩⟩ (by simp; omega)
  · obtain ⟨⟨E, b, u⟩, e1, Y, e2, hρ⟩ := key
    simp only at e2; subst e2
    unfold chart_Engine_pass
    rw [e1]
    exact ⟨b, Y, rfl, hρ⟩
  · rintro ⟨E, b, u⟩ mm ⟨q, Y, rfl, e2, k1, k2⟩
    simp only at e2 k2; subst e2
    simp only [chart_Engine_pass.l0]
    by_cases hq : q < g.Rules.length
    · have e1 : IntKind.wrap .i64 ((q : Int) + 1) = ((q + 1 : Nat) : Int) := by rw [wr (by omega) (by omega)]; omega
      have hh := hx.hd hq
      have hxl := hx.xl
      rw [if_pos (by show (q : Int) < (g.Rules.length : Int); omega), if_pos (by omega), if_pos hh.1, if_pos (by show _ < (xs.length : Int); rw [hxl]; exact hh.2)]
      simp only [e1]
      by_cases ht : rd xs (rd g.Rules (q : Int)).Head = t
      · rw [if_neg (fun x => x ht)]
        obtain ⟨Z, b2, u2, ep, hp⟩ := pass_l1 K hK g xs w X hx hl q i neg hq hi (fun r' c' => r' < q ∧ InL g xs t neg r' c') (fun c x => by omega) (fun c hc hn => hpast q c ⟨hq, hc, ht, hn⟩) (fun c hc hn => hsnd q c ⟨hq, hc, ht, hn⟩) ⟨g, xs, w, X⟩ rfl Y b k2
        rw [ep, Option.bind_some]
        refine .inr ⟨(⟨g, xs, w, Z⟩, b2, ((q + 1 : Nat) : Int)), ⟨q + 1, Z, rfl, rfl, hq, hp.congr fun r' c' => ?_⟩, by simp; omega, rfl⟩
        constructor
        · rintro (x | ⟨x1, x2, x3⟩)
          · exact ⟨by omega, x.2⟩
          · subst x1; exact ⟨by omega, hq, x2, ht, x3⟩
        · rintro ⟨x1, x2⟩
          by_cases er : r' = q
          · subst er; exact .inr ⟨rfl, x2.2.1, x2.2.2.2⟩
          · exact .inl ⟨by omega, x2⟩
      · rw [if_pos ht]
        refine .inr ⟨(⟨g, xs, w, Y⟩, b, ((q + 1 : Nat) : Int)), ⟨q + 1, Y, rfl, rfl, hq, k2.congr fun r' c' => ?_⟩, by simp; omega, rfl⟩
        constructor
        · rintro ⟨x1, x2⟩; exact ⟨by omega, x2⟩
        · rintro ⟨x1, x2⟩
          refine ⟨?_, x2⟩
          by_cases er : r' = q
          · subst er; exact (ht x2.2.2.1).elim
          · omega
    · rw [if_neg (by show ¬ (q : Int) < (g.Rules.length : Int); omega)]
      exact .inl ⟨_, rfl, Y, rfl, k2.congr fun r' c' => ⟨fun x => x.2, fun x => ⟨by have := x.1; omega, x⟩⟩⟩
end Go.Proofs.Ytpjhcllohagjoaa

/-! PChC -/
namespace Go.Proofs.Ytpjhcllohagjoaa
open S
set_option linter.unusedVariables false
set_option linter.unusedSimpArgs false
set_option maxRecDepth 10000

/-! ## Heads -/
/-- A rule holds, by what is begun. -/
def HB (g : Grammar) (X : List Chart_set) (i j r : Nat) : Prop := ∀ c, c < nc g r → ((rd (rd g.Rules (r : Int)).Conj (c : Int)).Neg = true ↔ ¬ BS X r c (sq g r c).length i j)
theorem holds_spec (K : Nat) (hK : 200000 ≤ K) (g : Grammar) (xs w : List Int) (X : List Chart_set) (hx : CX g xs w) (h : Shp g X) (hl : X.length = w.length + 1) (r i : Nat) (hr : r < g.Rules.length) (hi : i ≤ w.length) :
    ∃ b, chart_Engine_holds K ⟨g, xs, w, X⟩ r i = some b ∧ (b = true ↔ HB g X i w.length r) := by
  have q1 := hx.wl
  have q2 := hx.rl
  have q3 := hx.cl hr
  have s1 := h.b1 w.length (by omega)
  have s2 := h.b2 w.length (by omega) r hr
  unfold chart_Engine_holds
  rw [if_pos (by omega), if_pos (by show (r : Int) < (g.Rules.length : Int); omega)]
  have key := rounds (σ := Int) (ρ := Int ⊕ Bool) (L := chart_Engine_holds.l0 K ⟨g, xs, w, X⟩ r i)
    (fun k => ∃ q : Nat, k = (q : Int) ∧ q ≤ nc g r ∧ ∀ c, c < q → ((rd (rd g.Rules (r : Int)).Conj (c : Int)).Neg = true ↔ ¬ BS X r c (sq g r c).length i w.length)) (fun k => nc g r - k.toNat)
    (fun ρ => (ρ = .inr false ∧ ¬ HB g X i w.length r) ∨ (∃ q, ρ = .inl q) ∧ HB g X i w.length r) ?_ K 0 ⟨0, rfl, Nat.zero_le _, fun c hc => by omega⟩ (by simp; omega)
  · obtain ⟨ρ, e1, hρ⟩ := key
    rw [e1]
    rcases hρ with ⟨e, hh⟩ | ⟨⟨q, e⟩, hh⟩
    · subst e; exact ⟨false, rfl, ⟨fun e => (by cases e), fun e => (hh e).elim⟩⟩
    · subst e; exact ⟨true, rfl, ⟨fun _ => hh, fun _ => rfl⟩⟩
  · rintro k mm ⟨q, rfl, k1, k2⟩
    simp only [chart_Engine_holds.l0]
    by_cases hq : q < nc g r
    · have s3 := h.b3 w.length (by omega) r hr q hq
      have s4 := h.b4 w.length (by omega) r hr q hq (sq g r q).length (Nat.le_refl _)
      have q4 := hx.ql hr hq
      unfold sg at s3 s4
      have e0 : IntKind.wrap .i64 (((rd (rd (rd X (w.length : Int)).begun (r : Int)) (q : Int)).length : Int) - 1) = ((sq g r q).length : Int) := by rw [s3, wr (by omega) (by omega)]; omega
      have e1 : IntKind.wrap .i64 ((q : Int) + 1) = ((q + 1 : Nat) : Int) := by rw [wr (by omega) (by omega)]; omega
      rw [if_pos (by show (q : Int) < ((nc g r : Nat) : Int); omega), if_pos (by omega), if_pos (by show (w.length : Int) < (X.length : Int); omega), if_pos (by show (r : Int) < _; rw [s1]; omega), if_pos (by show (q : Int) < _; rw [s2]; omega)]
      simp only [e0, e1]
      rw [if_pos (by omega), if_pos (by rw [s3]; omega), if_pos (by omega), shr1 s4 i]
      have ed : decide ((if bit (rd (rd (rd (rd X (w.length : Int)).begun (r : Int)) (q : Int)) ((sq g r q).length : Int)) i = true then (1 : Int) else 0) = 1) = bit (rd (rd (rd (rd X (w.length : Int)).begun (r : Int)) (q : Int)) ((sq g r q).length : Int)) i := by
        cases bit (rd (rd (rd (rd X (w.length : Int)).begun (r : Int)) (q : Int)) ((sq g r q).length : Int)) i <;> simp
      rw [ed]
      have hbs : BS X r q (sq g r q).length i w.length ↔ bit (rd (rd (rd (rd X (w.length : Int)).begun (r : Int)) (q : Int)) ((sq g r q).length : Int)) i = true := Iff.rfl
      by_cases he : bit (rd (rd (rd (rd X (w.length : Int)).begun (r : Int)) (q : Int)) ((sq g r q).length : Int)) i = (rd (rd g.Rules (r : Int)).Conj (q : Int)).Neg
      · rw [if_pos he]
        refine .inl ⟨_, rfl, .inl ⟨rfl, fun hh => ?_⟩⟩
        have := hh q hq
        rw [hbs, he] at this
        cases hn : (rd (rd g.Rules (r : Int)).Conj (q : Int)).Neg <;> rw [hn] at this <;> simp at this
      · rw [if_neg he]
        refine .inr ⟨((q + 1 : Nat) : Int), ⟨q + 1, rfl, hq, fun c hc => ?_⟩, by omega, rfl⟩
        by_cases ec : c = q
        · subst ec
          rw [hbs]
          cases hn : (rd (rd g.Rules (r : Int)).Conj (c : Int)).Neg <;> rw [hn] at he <;> simp at he ⊢ <;> exact he
        · exact k2 c (by omega)
    · rw [if_neg (by show ¬ (q : Int) < ((nc g r : Nat) : Int); omega)]
      have : q = nc g r := by omega
      subst this
      exact .inl ⟨_, rfl, .inr ⟨⟨_, rfl⟩, k2⟩⟩

/-- What heads puts. -/
def HA (g : Grammar) (xs : List Int) (X : List Chart_set) (t : Int) (i j q : Nat) (x : Int) : Prop := ∃ r, r < q ∧ (rd g.Rules (r : Int)).Head = x ∧ rd xs x = t ∧ HB g X i j r
theorem BS_sg {X Y : List Chart_set} (h : ∀ k r c, sg Y k r c = sg X k r c) (r c m i k : Nat) : BS Y r c m i k ↔ BS X r c m i k := by unfold BS; rw [h]
theorem HB_sg {g : Grammar} {X Y : List Chart_set} (h : ∀ k r c, sg Y k r c = sg X k r c) (i j r : Nat) : HB g Y i j r ↔ HB g X i j r := by
  unfold HB
  exact ⟨fun hh c hc => by rw [← BS_sg h]; exact hh c hc, fun hh c hc => by rw [BS_sg h]; exact hh c hc⟩
structure Hd (g : Grammar) (xs : List Int) (X X' : List Chart_set) (b : Bool) (t : Int) (i j q : Nat) : Prop where
  shp : Shp g X'
  len : X'.length = X.length
  sgs : ∀ k r c, sg X' k r c = sg X k r c
  ns : ∀ y i' k : Nat, NS X' (y : Int) i' k ↔ NS X (y : Int) i' k ∨ (k = j ∧ i' = i ∧ HA g xs X t i j q (y : Int))
  same : b = false → X' = X
  still : (∀ y : Nat, HA g xs X t i j q (y : Int) → NS X (y : Int) i j) → b = false
theorem heads_spec (K : Nat) (hK : 200000 ≤ K) (g : Grammar) (xs w : List Int) (X : List Chart_set) (hx : CX g xs w) (h : Shp g X) (hl : X.length = w.length + 1) (t : Int) (i : Nat) (hi : i ≤ w.length) :
    ∃ b X', chart_Engine_heads K ⟨g, xs, w, X⟩ t i = some (b, ⟨g, xs, w, X'⟩) ∧ Hd g xs X X' b t i w.length g.Rules.length := by
  have q1 := hx.wl
  have q2 := hx.rl
  unfold chart_Engine_heads
  rw [if_pos (by show (w.length : Int) < (X.length : Int); omega)]
  have key := rounds (σ := List Chart_set × Bool × Int) (ρ := List Chart_set × Bool × Int) (L := chart_Engine_heads.l0 K ⟨g, xs, w, X⟩ t i)
    (fun s => ∃ q : Nat, s.2.2 = (q : Int) ∧ q ≤ g.Rules.length ∧ Hd g xs X s.1 s.2.1 t i w.length q)
    (fun s => g.Rules.length - s.2.2.toNat)
    (fun ρ => Hd g xs X ρ.1 ρ.2.1 t i w.length g.Rules.length) ?_ K (X, false, 0) ⟨0, rfl, Nat.zero_le _, h, rfl, fun _ _ _ => rfl, fun y i' k => ⟨.inl, fun x => x.elim id fun ⟨_, _, r, hr, _⟩ => by omega⟩, fun _ => rfl, fun _ => rfl⟩ (by simp; omega)
  · obtain ⟨⟨Y, b, u⟩, e1, hρ⟩ := key
    rw [e1]
    exact ⟨b, Y, rfl, hρ⟩
  · rintro ⟨Y, b, u⟩ mm ⟨q, rfl, k1, k2⟩
    simp only at k2
    simp only [chart_Engine_heads.l0]
    by_cases hq : q < g.Rules.length
    · have e1 : IntKind.wrap .i64 ((q : Int) + 1) = ((q + 1 : Nat) : Int) := by rw [wr (by omega) (by omega)]; omega
      have hh := hx.hd hq
      have hxl := hx.xl
      have yl : Y.length = w.length + 1 := k2.len.trans hl
      obtain ⟨hd, ehd⟩ : ∃ hd : Nat, (rd g.Rules (q : Int)).Head = (hd : Int) := ⟨(rd g.Rules (q : Int)).Head.toNat, by omega⟩
      have hdl : hd < g.Names.length := by omega
      have n1 := k2.shp.n1 w.length (by omega)
      have n2 := k2.shp.n2 w.length (by omega) hd hdl
      have more : ∀ y : Int, HA g xs X t i w.length (q + 1) y ↔ HA g xs X t i w.length q y ∨ ((hd : Int) = y ∧ rd xs y = t ∧ HB g X i w.length q) := fun y => by
        constructor
        · rintro ⟨r, h1, h2, h3, h4⟩
          by_cases er : r = q
          · subst er; exact .inr ⟨ehd.symm.trans h2, h3, h4⟩
          · exact .inl ⟨r, by omega, h2, h3, h4⟩
        · rintro (⟨r, h1, h2, h3, h4⟩ | ⟨h2, h3, h4⟩)
          · exact ⟨r, by omega, h2, h3, h4⟩
          · exact ⟨q, by omega, ehd.trans h2, h3, h4⟩
      have skip : (∀ y : Nat, (hd : Int) = (y : Int) → rd xs (y : Int) = t → HB g X i w.length q → NS Y (y : Int) i w.length) → Hd g xs X Y b t i w.length (q + 1) := fun hs => ⟨k2.shp, k2.len, k2.sgs, fun y i' k => by
        rw [k2.ns, more]
        constructor
        · rintro (x | ⟨x1, x2, x3⟩)
          · exact .inl x
          · exact .inr ⟨x1, x2, .inl x3⟩
        · rintro (x | ⟨x1, x2, x3 | ⟨x3, x4, x5⟩⟩)
          · exact .inl x
          · exact .inr ⟨x1, x2, x3⟩
          · subst x1 x2; exact (k2.ns _ _ _).1 (hs y x3 x4 x5), k2.same, fun hf => k2.still fun y hy => hf y ((more _).2 (.inl hy))⟩
      rw [if_pos (by show (q : Int) < (g.Rules.length : Int); omega), if_pos (by omega), if_pos hh.1, if_pos (by show _ < (xs.length : Int); rw [hxl]; exact hh.2)]
      simp only [e1, ehd]
      by_cases ht : rd xs (hd : Int) = t
      · rw [if_pos ht, if_pos (by show (w.length : Int) < (Y.length : Int); omega), if_pos (by rw [n1]; omega), if_pos (by omega), shr1 n2 i]
        by_cases hb : bit (rd (rd Y (w.length : Int)).names (hd : Int)) i = true
        · rw [if_pos hb, if_neg (by decide)]
          exact .inr ⟨(Y, b, ((q + 1 : Nat) : Int)), ⟨q + 1, rfl, hq, skip fun y ey _ _ => by rw [← ey]; exact hb⟩, by simp; omega, rfl⟩
        · rw [if_neg hb, if_pos rfl]
          obtain ⟨b2, er, hb2⟩ := holds_spec K hK g xs w Y hx k2.shp yl q i hq hi
          rw [HB_sg k2.sgs] at hb2
          erw [er, Option.bind_some]
          cases b2 with
          | true =>
            rw [if_pos rfl]
            have hHB := hb2.1 rfl
            have hN := fun y i' k => setN_NS k2.shp (j := w.length) (x := hd) (i := i) (by omega) hdl (by omega) y i' k
            refine .inr ⟨(setN Y w.length hd (ior .u64 (rd (rd Y (w.length : Int)).names (hd : Int)) (ishl .u64 1 (i : Int))), true, ((q + 1 : Nat) : Int)), ⟨q + 1, rfl, hq, setN_shp k2.shp (by omega) (or_ok n2 (by omega)), (setN_len ..).trans k2.len, fun k r c => (setN_sg ..).trans (k2.sgs k r c), fun y i' k => ?_, fun e => (by cases e), fun hf => ?_⟩, by simp; omega, rfl⟩
            · rw [hN, k2.ns, more]
              constructor
              · rintro ((x | ⟨x1, x2, x3⟩) | ⟨x1, x2, x3⟩)
                · exact .inl x
                · exact .inr ⟨x1, x2, .inl x3⟩
                · exact .inr ⟨x1, x3, .inr ⟨by rw [x2], by rw [x2]; exact ht, hHB⟩⟩
              · rintro (x | ⟨x1, x2, x3 | ⟨x3, x4, x5⟩⟩)
                · exact .inl (.inl x)
                · exact .inl (.inr ⟨x1, x2, x3⟩)
                · exact .inr ⟨x1, by omega, x2⟩
            · have := hf hd ((more _).2 (.inr ⟨rfl, ht, hHB⟩))
              exact (hb ((k2.ns hd i w.length).2 (.inl this))).elim
          | false =>
            rw [if_neg (by decide)]
            exact .inr ⟨(Y, b, ((q + 1 : Nat) : Int)), ⟨q + 1, rfl, hq, skip fun y _ _ hh => by cases hb2.2 hh⟩, by simp; omega, rfl⟩
      · rw [if_neg ht]
        exact .inr ⟨(Y, b, ((q + 1 : Nat) : Int)), ⟨q + 1, rfl, hq, skip fun y ey et _ => by rw [← ey] at et; exact (ht et).elim⟩, by simp; omega, rfl⟩
    · rw [if_neg (by show ¬ (q : Int) < (g.Rules.length : Int); omega)]
      have : q = g.Rules.length := by omega
      subst this
      exact .inl ⟨_, rfl, k2⟩
end Go.Proofs.Ytpjhcllohagjoaa

/-! PStr -/
namespace Go.Proofs.Ytpjhcllohagjoaa
open S Go.Sort
set_option linter.unusedVariables false
set_option linter.unusedSimpArgs false
set_option maxRecDepth 100000
theorem Edges_p (K : Nat) (hK : 200000 ≤ K) (g : Grammar) : ∃ b, (b = true ↔ mayP g) ∧ gram_May K g = some b ∧ deps_Edges K g = some (if b = true then (edgesOf g, 0) else ([], 600)) := by
  obtain ⟨b, hb, hbm⟩ := gMay_spec K (by omega) g
  obtain ⟨b', hb', _, he⟩ := Edges_spec K hK g
  rw [hb] at hb'
  cases hb'
  exact ⟨b, hbm, hb, he⟩
theorem Strata_spec (K : Nat) (hK : 200000 ≤ K) (g : Grammar) : ∃ r, strata_Strata K g = some r ∧ StrOut g r := by
  obtain ⟨b, hb, _, h1⟩ := Edges_p K hK g
  unfold strata_Strata
  rw [h1, Option.bind_some]
  cases b with
  | false => exact ⟨_, rfl, .inl ⟨fun h => Bool.noConfusion (hb.2 h), rfl⟩⟩
  | true =>
    have hm := hb.1 rfl
    have hf := fit_edges hm
    have hl := edges_len g (may_bd hm)
    have hn := hm.1.2.1
    simp only [if_true]
    rw [if_neg (fun h => h rfl)]
    obtain ⟨c, hc, hcs⟩ := cycle_spec K hK _ hn (edgesOf g) hf hl
    rw [hc, Option.bind_some]
    rcases hcs with ⟨rfl, hno⟩ | hcs
    · obtain ⟨P, p1, p2, p3⟩ := pot_of hm hno
      obtain ⟨⟨xs, q⟩, h2, h3⟩ := str_l0 K hK _ hn (edgesOf g) 0 hf hl ⟨P, p1, p2, fun i a b => by have := p3 i a b; omega⟩
      rw [if_neg (fun h => h rfl), if_pos (by omega), Int.toNat_natCast, h2]
      exact ⟨_, rfl, .inr ⟨hm, .inr ⟨hno, xs, h3, rfl⟩⟩⟩
    · rw [if_pos hcs.ne]
      exact ⟨_, rfl, .inr ⟨hm, .inl ⟨c, hcs, rfl⟩⟩⟩
end Go.Proofs.Ytpjhcllohagjoaa

/-! PChD -/
namespace Go.Proofs.Ytpjhcllohagjoaa
open S
set_option linter.unusedVariables false
set_option linter.unusedSimpArgs false
set_option maxRecDepth 10000

theorem countP_ltC {T : Type} {p q : T → Bool} {x : T} : ∀ {l : List T}, x ∈ l → (∀ z ∈ l, p z = true → q z = true) → q x = true → p x = false → l.countP p < l.countP q
  | [], h, _, _, _ => by cases h
  | y :: l, h, hi, hq, hp => by
    have hle : l.countP p ≤ l.countP q := List.countP_mono_left fun z hz => hi z (List.mem_cons_of_mem _ hz)
    rw [List.countP_cons, List.countP_cons]
    by_cases e : x = y
    · subst e; rw [hq, hp]; simp; omega
    · have hm : x ∈ l := by cases h with | head => exact (e rfl).elim | tail _ h => exact h
      have := countP_ltC hm (fun z hz => hi z (List.mem_cons_of_mem _ hz)) hq hp
      have hy := hi y (List.mem_cons_self ..)
      cases hpy : p y with
      | true => rw [hy hpy]; simp; omega
      | false => cases q y <;> simp <;> omega
/-! ## A span -/
theorem SeqS_env {A B : Sp} {w : Nat → Int} {l : List Symbol} {i j : Nat} (h : ∀ s ∈ l, 0 ≤ s.Name → ∀ a b, i ≤ a → a ≤ b → b ≤ j → (A s.Name a b ↔ B s.Name a b)) : SeqS A w l i j ↔ SeqS B w l i j :=
  ⟨SeqS_mono fun s hs h0 a b h1 h2 h3 => (h s hs h0 a b h1 h2 h3).1, SeqS_mono fun s hs h0 a b h1 h2 h3 => (h s hs h0 a b h1 h2 h3).2⟩
/-- The span (i, j) under way at level t: X0: the sets when it began. -/
structure Sp0 (g : Grammar) (xs w : List Int) (X0 : List Chart_set) (i : Nat) (t : Int) (X : List Chart_set) : Prop where
  shp : Shp g X
  len : X.length = w.length + 1
  env : ∀ x a b, ¬ (a = i ∧ b = w.length) → (NS X x a b ↔ NS X0 x a b)
  oth : ∀ r c m i' k, ¬ (k = w.length ∧ i' = i) → (BS X r c m i' k ↔ BS X0 r c m i' k)
  ri : RI g.Names.length g.Rules (rd xs) (HS (NS X0) (wf w) i w.length) t fun x => NS X x i w.length
  lo : ∀ r c, r < g.Rules.length → c < nc g r → rd xs (rd g.Rules (r : Int)).Head < t → Full g X (NS X) w i w.length r c
  hi : ∀ r c, r < g.Rules.length → c < nc g r → t < rd xs (rd g.Rules (r : Int)).Head → ∀ m, ¬ BS X r c m i w.length
theorem Sp0.self {g : Grammar} {xs w : List Int} {X0 X : List Chart_set} {i : Nat} {t : Int} (h : Sp0 g xs w X0 i t X) : upd (NS X0) i w.length (fun x => NS X x i w.length) = NS X := by
  funext x a b
  unfold upd
  split
  · rename_i e; rw [e.1, e.2]
  · rename_i e; exact propext (h.env x a b e).symm
/-- Conjuncts whose names stay as they are. -/
theorem full_keep {g : Grammar} {xs w : List Int} (hx : CX g xs w) {X Y : List Chart_set} {i r c : Nat} (hr : r < g.Rules.length) (hc : c < nc g r) (hb : ∀ m, BS Y r c m i w.length ↔ BS X r c m i w.length)
    (hn : ∀ y : Int, 0 ≤ y → y < g.Names.length → rd xs y + (if (rd (rd g.Rules (r : Int)).Conj (c : Int)).Neg = true then 1 else 0) ≤ rd xs (rd g.Rules (r : Int)).Head → ∀ a b, i ≤ a → a ≤ b → b ≤ w.length → (NS Y y a b ↔ NS X y a b)) (h : Full g X (NS X) w i w.length r c) : Full g Y (NS Y) w i w.length r c := fun m hm => by
  rw [hb, h m hm]
  refine (SeqS_env fun s hs h0 a b h1 h2 h3 => ?_).symm
  have := (hx.lv _ (rd_mem' hr)).2 _ (rd_mem' hc) s (List.mem_of_mem_take hs) h0
  exact hn s.Name h0 this.1 this.2 a b h1 h2 h3
theorem snd_keep {g : Grammar} {w : List Int} {X Y : List Chart_set} {i r c : Nat} (hb : ∀ m, BS Y r c m i w.length ↔ BS X r c m i w.length) (hn : ∀ y : Int, 0 ≤ y → ∀ a b, NS X y a b → NS Y y a b) (h : Snd g X (NS X) w i w.length r c) : Snd g Y (NS Y) w i w.length r c := fun m hm hh =>
  SeqS_mono (fun s _ h0 a b _ _ _ => hn s.Name h0 a b) (h m hm ((hb m).1 hh))
/-- Earlier ends are as they were. -/
theorem Sp0.past {g : Grammar} {xs w : List Int} {X0 X : List Chart_set} {i : Nat} {t : Int} (h : Sp0 g xs w X0 i t X) (hp : ∀ r c, r < g.Rules.length → c < nc g r → ∀ k, i ≤ k → k < w.length → Full g X0 (NS X0) w i k r c) {r c : Nat} (hr : r < g.Rules.length) (hc : c < nc g r) (k : Nat) (h1 : i ≤ k) (h2 : k < w.length) : Full g X (NS X) w i k r c := fun m hm => by
  rw [h.oth r c m i k (fun x => by omega), hp r c hr hc k h1 h2 m hm]
  exact (SeqS_env fun s _ _ a b g1 g2 g3 => h.env s.Name a b (fun x => by omega)).symm
/-- A pass within the span. -/
theorem Sp0.pass {g : Grammar} {xs w : List Int} {X0 X X1 : List Chart_set} {i : Nat} {t : Int} {b neg : Bool} (hx : CX g xs w) (h : Sp0 g xs w X0 i t X) (ha : Acc g w i X X1 b (InL g xs t neg)) : Sp0 g xs w X0 i t X1 := by
  have e := ha.fr.nm
  have hbs : ∀ (r c : Nat), rd xs (rd g.Rules (r : Int)).Head ≠ t → ∀ m, BS X1 r c m i w.length ↔ BS X r c m i w.length := fun r c hne m => ha.fr.bs r c m i w.length fun x => hne x.2.2.2.2.1
  refine ⟨ha.shp, ha.fr.len.trans h.len, fun x a b hh => by rw [e]; exact h.env x a b hh, fun r c m i' k hh => by rw [ha.fr.bs r c m i' k (fun x => hh ⟨x.1, x.2.1⟩)]; exact h.oth r c m i' k hh, by rw [e]; exact h.ri, fun r c hr hc hlt m hm => ?_, fun r c hr hc hlt m hh => ?_⟩
  · rw [hbs r c (by omega), e]; exact h.lo r c hr hc hlt m hm
  · exact h.hi r c hr hc hlt m ((hbs r c (by omega) m).1 hh)

/-- Rules of the level hold just if what is begun says so. -/
theorem HB_rule {g : Grammar} {xs w : List Int} {X0 X : List Chart_set} {i : Nat} {t : Int} (h : Sp0 g xs w X0 i t X) {r : Nat} (hr : r < g.Rules.length) (hf : ∀ c, c < nc g r → Full g X (NS X) w i w.length r c) : HB g X i w.length r ↔ HS (NS X0) (wf w) i w.length (fun x => NS X x i w.length) (rd g.Rules (r : Int)) := by
  unfold HS
  rw [h.self]
  unfold HB RuleS
  have key : ∀ c, c < nc g r → (BS X r c (sq g r c).length i w.length ↔ SeqS (NS X) (wf w) (sq g r c) i w.length) := fun c hc => by
    have := hf c hc (sq g r c).length (Nat.le_refl _)
    rwa [List.take_length] at this
  constructor
  · intro hh c hc
    obtain ⟨q, hq, rfl⟩ := mem_rd hc
    rw [hh q hq, key q hq]
  · intro hh c hc
    rw [hh _ (rd_mem' hc), key c hc]

theorem turn_l2 (K : Nat) (hK : 200000 ≤ K) (g : Grammar) (xs w : List Int) (X0 : List Chart_set) (hx : CX g xs w) (i : Nat) (hi : i ≤ w.length) (t : Nat) (X : List Chart_set) (h : Sp0 g xs w X0 i t X)
    (hp : ∀ r c, r < g.Rules.length → c < nc g r → ∀ k, i ≤ k → k < w.length → Full g X0 (NS X0) w i k r c)
    (hng : ∀ r c, InL g xs t true r c → Full g X (NS X) w i w.length r c) (hps : ∀ r c, InL g xs t false r c → Snd g X (NS X) w i w.length r c) :
    ∃ X' b, chart_Engine_turn.l2 K i t K (⟨g, xs, w, X⟩, true) = some (⟨g, xs, w, X'⟩, b) ∧ Sp0 g xs w X0 i t X' ∧ (∀ r c, r < g.Rules.length → c < nc g r → rd xs (rd g.Rules (r : Int)).Head = t → Full g X' (NS X') w i w.length r c) ∧ (∀ r ∈ g.Rules, rd xs r.Head = t → HS (NS X0) (wf w) i w.length (fun x => NS X' x i w.length) r → NS X' r.Head i w.length) := by
  classical
  let C : List Chart_set → Prop := fun Y => ∀ r c, InL g xs t false r c → Full g Y (NS Y) w i w.length r c
  let cnt : List Chart_set → Nat := fun Y => (List.range g.Names.length).countP fun y => decide (¬ NS Y ((y : Nat) : Int) i w.length)
  have hcle : ∀ Y, cnt Y ≤ 64 := fun Y => Nat.le_trans (List.countP_le_length) (by simp; exact hx.nl)
  have key := rounds (σ := Chart_Engine × Bool) (ρ := Chart_Engine × Bool) (L := chart_Engine_turn.l2 K i t)
    (fun s => ∃ Y, s.1 = ⟨g, xs, w, Y⟩ ∧ Sp0 g xs w X0 i t Y ∧ (∀ r c, InL g xs t true r c → Full g Y (NS Y) w i w.length r c) ∧ (∀ r c, InL g xs t false r c → Snd g Y (NS Y) w i w.length r c) ∧
      (s.2 = false → C Y ∧ ∀ r ∈ g.Rules, rd xs r.Head = t → HS (NS X0) (wf w) i w.length (fun x => NS Y x i w.length) r → NS Y r.Head i w.length))
    (fun s => 2 * (2 * cnt s.1.sets + if C s.1.sets then 0 else 1) + if s.2 = true then 1 else 0)
    (fun ρ => ∃ Y, ρ.1 = ⟨g, xs, w, Y⟩ ∧ Sp0 g xs w X0 i t Y ∧ (∀ r c, r < g.Rules.length → c < nc g r → rd xs (rd g.Rules (r : Int)).Head = t → Full g Y (NS Y) w i w.length r c) ∧ (∀ r ∈ g.Rules, rd xs r.Head = t → HS (NS X0) (wf w) i w.length (fun x => NS Y x i w.length) r → NS Y r.Head i w.length)) ?_ K (⟨g, xs, w, X⟩, true) ⟨X, rfl, h, hng, hps, fun e => by cases e⟩ (by have := hcle X; simp only; split <;> split <;> omega)
  · obtain ⟨⟨E, b⟩, e1, Y, e2, h1, h2, h3⟩ := key
    simp only at e2; subst e2
    exact ⟨Y, b, e1, h1, h2, h3⟩
  · rintro ⟨E, more⟩ mm ⟨Y, e2, k1, k2, k3, k4⟩
    simp only at e2 k4; subst e2
    simp only [chart_Engine_turn.l2]
    cases more with
    | false =>
      rw [if_neg (by decide)]
      obtain ⟨c1, c2⟩ := k4 rfl
      refine .inl ⟨_, rfl, Y, rfl, k1, fun r c hr hc ht => ?_, c2⟩
      cases hn : (rd (rd g.Rules (r : Int)).Conj (c : Int)).Neg with
      | true => exact k2 r c ⟨hr, hc, ht, hn⟩
      | false => exact c1 r c ⟨hr, hc, ht, hn⟩
    | true =>
      rw [if_pos rfl]
      obtain ⟨b1, Y1, ep, ha⟩ := pass_spec K hK g xs w Y hx k1.shp k1.len t i false hi (fun r c hq k g1 g2 => k1.past hp hq.1 hq.2.1 k g1 g2) k3
      have s1 := k1.pass hx ha
      rw [ep, Option.bind_some]
      obtain ⟨b2, Y2, eh, hh⟩ := heads_spec K hK g xs w Y1 hx s1.shp s1.len t i hi
      erw [eh, Option.bind_some]
      have e1 := ha.fr.nm
      have pc : C Y1 := fun r c hq m hm => by rw [e1]; exact ha.full r c hq m hm
      have ng1 : ∀ r c, InL g xs t true r c → Full g Y1 (NS Y1) w i w.length r c := fun r c hq m hm => by
        rw [ha.fr.bs r c m i w.length (fun x => by have := x.2.2.2.2.2; rw [hq.2.2.2] at this; cases this), e1]; exact k2 r c hq m hm
      have all1 : ∀ r c, r < g.Rules.length → c < nc g r → rd xs (rd g.Rules (r : Int)).Head = t → Full g Y1 (NS Y1) w i w.length r c := fun r c hr hc ht => by
        cases hn : (rd (rd g.Rules (r : Int)).Conj (c : Int)).Neg with
        | true => exact ng1 r c ⟨hr, hc, ht, hn⟩
        | false => exact pc r c ⟨hr, hc, ht, hn⟩
      -- what heads puts
      have hA : ∀ y, HA g xs Y1 t i w.length g.Rules.length y → ∃ r ∈ g.Rules, r.Head = y ∧ rd xs y = t ∧ HS (NS X0) (wf w) i w.length (fun x => NS Y1 x i w.length) r := fun y ⟨r, h1, h2, h3, h4⟩ =>
        ⟨rd g.Rules (r : Int), rd_mem' h1, h2, h3, (HB_rule s1 h1 fun c hc => all1 r c h1 hc (by rw [h2]; exact h3)).1 h4⟩
      have nat : ∀ (x : Int), NS Y2 x = NS Y2 (x.toNat : Int) ∧ NS Y1 x = NS Y1 (x.toNat : Int) := fun x => by
        by_cases h0 : 0 ≤ x
        · rw [Int.toNat_of_nonneg h0]; exact ⟨rfl, rfl⟩
        · have e0 : x.toNat = 0 := Int.toNat_of_nonpos (by omega)
          rw [e0]
          exact ⟨by funext a b; exact propext (NS_neg (by omega)), by funext a b; exact propext (NS_neg (by omega))⟩
      have ns2 : ∀ x a b, ¬ (a = i ∧ b = w.length) → (NS Y2 x a b ↔ NS Y1 x a b) := fun x a b hne => by
        rw [(nat x).1, (nat x).2, hh.ns]
        exact ⟨fun z => z.elim id fun z => (hne ⟨z.2.1, z.1⟩).elim, .inl⟩
      have ns2i : ∀ y : Int, 0 ≤ y → (NS Y2 y i w.length ↔ NS Y1 y i w.length ∨ HA g xs Y1 t i w.length g.Rules.length y) := fun y h0 => by
        have := hh.ns y.toNat i w.length
        rw [Int.toNat_of_nonneg h0] at this
        rw [this]
        exact ⟨fun z => z.imp id fun z => z.2.2, fun z => z.imp id fun z => ⟨rfl, rfl, z⟩⟩
      have lowN : ∀ y : Int, 0 ≤ y → rd xs y ≠ t → ∀ a b, NS Y2 y a b ↔ NS Y1 y a b := fun y h0 hne a b => by
        by_cases hab : a = i ∧ b = w.length
        · rw [hab.1, hab.2, ns2i y h0]
          exact ⟨fun z => z.elim id fun ⟨_, _, _, z, _⟩ => (hne z).elim, .inl⟩
        · exact ns2 y a b hab
      have upN : ∀ y : Int, 0 ≤ y → ∀ a b, NS Y1 y a b → NS Y2 y a b := fun y h0 a b hz => by
        by_cases hab : a = i ∧ b = w.length
        · rw [hab.1, hab.2] at hz ⊢; exact (ns2i y h0).2 (.inl hz)
        · exact (ns2 y a b hab).2 hz
      have bs2 := BS_sg hh.sgs
      have s2 : Sp0 g xs w X0 i t Y2 := by
        refine ⟨hh.shp, hh.len.trans s1.len, fun x a b hne => (ns2 x a b hne).trans (s1.env x a b hne), fun r c m i' k hne => (bs2 r c m i' k).trans (s1.oth r c m i' k hne), ?_, fun r c hr hc hlt => ?_, fun r c hr hc hlt m hz => s1.hi r c hr hc hlt m ((bs2 ..).1 hz)⟩
        · have hri := RI.puts (HS_lvl hx.lv (NS X0) (wf w) i w.length) s1.ri (A := fun y => 0 ≤ y ∧ HA g xs Y1 t i w.length g.Rules.length y) fun y hy => hA y hy.2
          refine RI_on hri (fun y h0 h1 => ?_) (HS_lvl hx.lv (NS X0) (wf w) i w.length)
          rw [ns2i y h0]
          exact ⟨fun z => z.imp id fun z => ⟨h0, z⟩, fun z => z.imp id fun z => z.2⟩
        · exact full_keep hx hr hc (fun m => bs2 ..) (fun y h0 h1 hle a b _ _ _ => lowN y h0 (by split at hle <;> omega) a b) (s1.lo r c hr hc hlt)
      have ng2 : ∀ r c, InL g xs t true r c → Full g Y2 (NS Y2) w i w.length r c := fun r c hq => full_keep hx hq.1 hq.2.1 (fun m => bs2 ..) (fun y h0 h1 hle a b _ _ _ => lowN y h0 (by rw [hq.2.2.2, hq.2.2.1] at hle; simp at hle; omega) a b) (ng1 r c hq)
      have ps2 : ∀ r c, InL g xs t false r c → Snd g Y2 (NS Y2) w i w.length r c := fun r c hq => snd_keep (fun m => bs2 ..) (fun y h0 a b => upN y h0 a b) fun m hm => (pc r c hq m hm).1
      have cntle : cnt Y1 = cnt Y := by
        show (List.range g.Names.length).countP _ = (List.range g.Names.length).countP _
        rw [e1]
      have grew : b2 = true → cnt Y2 < cnt Y1 := fun hb2 => by
        have : ∃ y : Nat, HA g xs Y1 t i w.length g.Rules.length (y : Int) ∧ ¬ NS Y1 (y : Int) i w.length := Classical.byContradiction fun hno => by
          have := hh.still fun y hy => Classical.byContradiction fun hz => hno ⟨y, hy, hz⟩
          rw [this] at hb2; cases hb2
        obtain ⟨y, hy, hz⟩ := this
        obtain ⟨r, h1, h2, _, _⟩ := hy
        have hyl := hx.hd h1
        refine countP_ltC (x := y) (List.mem_range.2 (by omega)) (fun z _ hz2 => ?_) ?_ ?_
        · simp only [decide_eq_true_eq] at hz2 ⊢
          exact fun hz3 => hz2 (upN z (Int.natCast_nonneg _) _ _ hz3)
        · simpa using hz
        · simp only [decide_eq_false_iff_not, Classical.not_not]
          exact (ns2i y (Int.natCast_nonneg _)).2 (.inr ⟨r, h1, h2, by assumption, by assumption⟩)
      have nogrew : b2 = false → Y2 = Y1 := hh.same
      have closed : b2 = false → ∀ r ∈ g.Rules, rd xs r.Head = t → HS (NS X0) (wf w) i w.length (fun x => NS Y2 x i w.length) r → NS Y2 r.Head i w.length := fun hb2 r hr ht hH => by
        have eY := nogrew hb2
        rw [eY] at hH
        obtain ⟨q, hq, rfl⟩ := mem_rd hr
        exact (ns2i _ (hx.hd hq).1).2 (.inr ⟨q, hq, rfl, ht, (HB_rule s1 hq fun c hc => all1 q c hq hc ht).2 hH⟩)
      by_cases hb1 : b1 = true
      · rw [if_pos hb1]
        refine .inr ⟨(⟨g, xs, w, Y2⟩, true), ⟨Y2, rfl, s2, ng2, ps2, fun e => by cases e⟩, ?_, rfl⟩
        have hC : ¬ C Y := fun hc => by have := ha.still hc; rw [hb1] at this; cases this
        simp only [if_neg hC]
        cases hb2 : b2 with
        | true => have := grew hb2; split <;> omega
        | false =>
          have eY := nogrew hb2
          rw [eY, if_pos pc, cntle]; omega
      · rw [if_neg hb1]
        refine .inr ⟨(⟨g, xs, w, Y2⟩, b2), ⟨Y2, rfl, s2, ng2, ps2, fun e => ⟨by rw [nogrew e]; exact pc, closed e⟩⟩, ?_, rfl⟩
        have eY1 := ha.same (by simpa using hb1)
        cases hb2 : b2 with
        | true =>
          have := grew hb2
          simp only [if_true]
          split <;> split <;> omega
        | false =>
          have eY := nogrew hb2
          simp only
          rw [eY, eY1]
          simp
end Go.Proofs.Ytpjhcllohagjoaa

/-! PChE -/
namespace Go.Proofs.Ytpjhcllohagjoaa
open S
set_option linter.unusedVariables false
set_option linter.unusedSimpArgs false
set_option maxRecDepth 10000

/-- The span is done. -/
structure SpD (g : Grammar) (xs w : List Int) (X0 : List Chart_set) (i : Nat) (X : List Chart_set) : Prop where
  shp : Shp g X
  len : X.length = w.length + 1
  env : ∀ x a b, ¬ (a = i ∧ b = w.length) → (NS X x a b ↔ NS X0 x a b)
  oth : ∀ r c m i' k, ¬ (k = w.length ∧ i' = i) → (BS X r c m i' k ↔ BS X0 r c m i' k)
  pm : PM1 g.Names.length g.Rules (rd xs) (HS (NS X0) (wf w) i w.length) fun x => NS X x i w.length
  full : ∀ r c, r < g.Rules.length → c < nc g r → Full g X (NS X) w i w.length r c
theorem turn_l1 (K : Nat) (hK : 200000 ≤ K) (g : Grammar) (xs w : List Int) (X0 : List Chart_set) (hx : CX g xs w) (i : Nat) (hi : i ≤ w.length) (h : Shp g X0) (hl : X0.length = w.length + 1)
    (hp : ∀ r c, r < g.Rules.length → c < nc g r → ∀ k, i ≤ k → k < w.length → Full g X0 (NS X0) w i k r c) (hz : ∀ r c m, ¬ BS X0 r c m i w.length) (hn : ∀ x : Int, ¬ NS X0 x i w.length) :
    ∃ X' u, chart_Engine_turn.l1 K ⟨g, xs, w, X0⟩ i K (⟨g, xs, w, X0⟩, 0) = some (⟨g, xs, w, X'⟩, u) ∧ SpD g xs w X0 i X' := by
  have q1 := hx.nl
  have hlv := HS_lvl hx.lv (NS X0) (wf w) i w.length
  have key := rounds (σ := Chart_Engine × Int) (ρ := Chart_Engine × Int) (L := chart_Engine_turn.l1 K ⟨g, xs, w, X0⟩ i)
    (fun s => ∃ (t : Nat) (Y : List Chart_set), s.2 = (t : Int) ∧ s.1 = ⟨g, xs, w, Y⟩ ∧ t ≤ g.Names.length ∧ Sp0 g xs w X0 i t Y ∧ ∀ r c, r < g.Rules.length → c < nc g r → rd xs (rd g.Rules (r : Int)).Head = t → ∀ m, ¬ BS Y r c m i w.length)
    (fun s => g.Names.length - s.2.toNat) (fun ρ => ∃ Y, ρ.1 = ⟨g, xs, w, Y⟩ ∧ SpD g xs w X0 i Y) ?_ K (⟨g, xs, w, X0⟩, 0) ⟨0, X0, rfl, rfl, Nat.zero_le _, ?_, fun r c _ _ _ m => hz r c m⟩ (by simp; omega)
  · obtain ⟨⟨E, u⟩, e1, Y, e2, h1⟩ := key
    simp only at e2; subst e2
    exact ⟨Y, u, e1, h1⟩
  · rintro ⟨E, u⟩ mm ⟨t, Y, rfl, e2, k1, k2, k3⟩
    simp only at e2; subst e2
    simp only [chart_Engine_turn.l1]
    by_cases ht : t < g.Names.length
    · have e1 : IntKind.wrap .i64 ((t : Int) + 1) = ((t + 1 : Nat) : Int) := by rw [wr (by omega) (by omega)]; omega
      rw [if_pos (by show (t : Int) < (g.Names.length : Int); omega)]
      simp only [e1]
      obtain ⟨b1, Y1, ep, ha⟩ := pass_spec K hK g xs w Y hx k2.shp k2.len t i true hi (fun r c hq k g1 g2 => k2.past hp hq.1 hq.2.1 k g1 g2) (fun r c hq m hm hh => (k3 r c hq.1 hq.2.1 hq.2.2.1 m hh).elim)
      have s1 := k2.pass hx ha
      rw [ep, Option.bind_some]
      have e1 := ha.fr.nm
      obtain ⟨Y2, b2, el, s2, f2, c2⟩ := turn_l2 K hK g xs w X0 hx i hi t Y1 s1 hp (fun r c hq m hm => by rw [e1]; exact ha.full r c hq m hm) (fun r c hq m hm hh => by
        rw [ha.fr.bs r c m i w.length (fun x => by have := x.2.2.2.2.2; rw [hq.2.2.2] at this; cases this)] at hh
        exact (k3 r c hq.1 hq.2.1 hq.2.2.1 m hh).elim)
      rw [el, Option.bind_some]
      refine .inr ⟨(⟨g, xs, w, Y2⟩, ((t + 1 : Nat) : Int)), ⟨t + 1, Y2, rfl, rfl, ht, ⟨s2.shp, s2.len, s2.env, s2.oth, by have := s2.ri.up c2; rwa [show ((t : Int) + 1) = ((t + 1 : Nat) : Int) by omega] at this, fun r c hr hc hlt => ?_, fun r c hr hc hlt m => s2.hi r c hr hc (by omega) m⟩, fun r c hr hc he m => s2.hi r c hr hc (by omega) m⟩, by simp; omega, rfl⟩
      by_cases e : rd xs (rd g.Rules (r : Int)).Head = t
      · exact f2 r c hr hc e
      · exact s2.lo r c hr hc (by omega)
    · rw [if_neg (by show ¬ (t : Int) < (g.Names.length : Int); omega)]
      have : t = g.Names.length := by omega
      subst this
      refine .inl ⟨_, rfl, Y, rfl, k2.shp, k2.len, k2.env, k2.oth, k2.ri.done hlv fun y y1 y2 => by have := hx.l1 y y1 y2; omega, fun r c hr hc => k2.lo r c hr hc (by have := hx.hd hr; have := hx.l1 _ this.1 this.2; omega)⟩
  · refine ⟨h, hl, fun _ _ _ _ => Iff.rfl, fun _ _ _ _ _ _ => Iff.rfl, ?_, fun r c hr hc hlt => ?_, fun r c _ _ _ m => hz r c m⟩
    · refine RI_on (RI.zero hx.l0 hlv) (fun y _ _ => ?_) hlv
      exact ⟨fun z => hn y z, fun z => z.elim⟩
    · have := hx.hd hr; have := hx.l0 _ this.1 this.2; omega

/-! ## All spans -/
/-- Sets that tell the meaning of all spans up to the last byte. -/
structure Good (g : Grammar) (xs w : List Int) (X : List Chart_set) : Prop where
  shp : Shp g X
  len : X.length = w.length + 1
  pm : PMs g.Names.length g.Rules (rd xs) (wf w) w.length (NS X)
  full : ∀ r c, r < g.Rules.length → c < nc g r → ∀ i k, i ≤ k → k ≤ w.length → Full g X (NS X) w i k r c
theorem turn_l0 (K : Nat) (hK : 200000 ≤ K) (g : Grammar) (xs w : List Int) (X0 : List Chart_set) (hx : CX g xs w) (h : Shp g X0) (hl : X0.length = w.length + 1)
    (hpm : ∀ i k, i ≤ k → k < w.length → PM1 g.Names.length g.Rules (rd xs) (HS (NS X0) (wf w) i k) fun x => NS X0 x i k)
    (hp : ∀ r c, r < g.Rules.length → c < nc g r → ∀ i k, i ≤ k → k < w.length → Full g X0 (NS X0) w i k r c) (hz : ∀ r c m i, ¬ BS X0 r c m i w.length) (hn : ∀ (x : Int) i, ¬ NS X0 x i w.length) :
    ∃ X' u, chart_Engine_turn.l0 K K (⟨g, xs, w, X0⟩, (w.length : Int)) = some (⟨g, xs, w, X'⟩, u) ∧ Good g xs w X' := by
  have q1 := hx.wl
  have key := rounds (σ := Chart_Engine × Int) (ρ := Chart_Engine × Int) (L := chart_Engine_turn.l0 K)
    (fun s => ∃ (d : Nat) (Y : List Chart_set), s.2 = (d : Int) - 1 ∧ s.1 = ⟨g, xs, w, Y⟩ ∧ d ≤ w.length + 1 ∧ Shp g Y ∧ Y.length = w.length + 1 ∧
      (∀ x a b, ¬ (d ≤ a ∧ b = w.length) → (NS Y x a b ↔ NS X0 x a b)) ∧ (∀ r c m a b, ¬ (d ≤ a ∧ b = w.length) → (BS Y r c m a b ↔ BS X0 r c m a b)) ∧
      (∀ i, d ≤ i → i ≤ w.length → PM1 g.Names.length g.Rules (rd xs) (HS (NS Y) (wf w) i w.length) fun x => NS Y x i w.length) ∧
      (∀ r c, r < g.Rules.length → c < nc g r → ∀ i, d ≤ i → i ≤ w.length → Full g Y (NS Y) w i w.length r c))
    (fun s => (s.2 + 1).toNat) (fun ρ => ∃ Y, ρ.1 = ⟨g, xs, w, Y⟩ ∧ Good g xs w Y) ?_ K (⟨g, xs, w, X0⟩, (w.length : Int)) ⟨w.length + 1, X0, by simp, rfl, Nat.le_refl _, h, hl, fun _ _ _ _ => Iff.rfl, fun _ _ _ _ _ _ => Iff.rfl, fun i h1 h2 => by omega, fun r c _ _ i h1 h2 => by omega⟩ (by simp; omega)
  · obtain ⟨⟨E, u⟩, e1, Y, e2, h1⟩ := key
    simp only at e2; subst e2
    exact ⟨Y, u, e1, h1⟩
  · rintro ⟨E, u⟩ mm ⟨d, Y, rfl, e2, k1, k2, k3, k4, k5, k6, k7⟩
    simp only at e2; subst e2
    simp only [chart_Engine_turn.l0]
    cases d with
    | zero =>
      rw [if_neg (by simp)]
      refine .inl ⟨_, rfl, Y, rfl, k2, k3, fun i k hik hk => ?_, fun r c hr hc i k hik hk => ?_⟩
      · by_cases e : k = w.length
        · subst e; exact k6 i (Nat.zero_le _) hik
        · have h1 := (hpm i k hik (by omega)).env hx.lv (B := NS Y) fun y _ _ a b _ _ h3 _ => (k4 y a b (fun x => by omega)).symm
          have h2 : (fun x => NS X0 x i k) = fun x => NS Y x i k := by funext x; exact propext (k4 x i k (fun z => e z.2)).symm
          rw [← h2]; exact h1
      · by_cases e : k = w.length
        · subst e; exact k7 r c hr hc i (Nat.zero_le _) hik
        · intro m hm
          rw [k5 r c m i k (fun z => e z.2), hp r c hr hc i k hik (by omega) m hm]
          exact (SeqS_env fun s _ _ a b _ _ h3 => k4 s.Name a b (fun x => by omega)).symm
    | succ d =>
      have e0 : (((d + 1 : Nat) : Int) - 1) = (d : Int) := by omega
      have e1 : IntKind.wrap .i64 ((d : Int) - 1) = (d : Int) - 1 := by rw [wr (by omega) (by omega)]
      rw [if_pos (by omega)]
      simp only [e0, e1]
      obtain ⟨Z, u2, el, hd⟩ := turn_l1 K hK g xs w Y hx d (by omega) k2 k3 (fun r c hr hc k g1 g2 m hm => by
          rw [k5 r c m d k (fun x => by omega), hp r c hr hc d k g1 g2 m hm]
          exact (SeqS_env fun s _ _ a b _ _ h3 => k4 s.Name a b (fun x => by omega)).symm) (fun r c m hh => hz r c m d ((k5 r c m d w.length (fun x => by omega)).1 hh)) (fun x hh => hn x d ((k4 x d w.length (fun z => by omega)).1 hh))
      rw [el, Option.bind_some]
      refine .inr ⟨(⟨g, xs, w, Z⟩, (d : Int) - 1), ⟨d, Z, rfl, rfl, by omega, hd.shp, hd.len, fun x a b hh => ?_, fun r c m a b hh => ?_, fun i h1 h2 => ?_, fun r c hr hc i h1 h2 => ?_⟩, by simp, rfl⟩
      · rw [hd.env x a b (fun z => hh ⟨by omega, z.2⟩)]; exact k4 x a b fun z => hh ⟨by omega, z.2⟩
      · rw [hd.oth r c m a b (fun z => hh ⟨by omega, z.1⟩)]; exact k5 r c m a b fun z => hh ⟨by omega, z.2⟩
      · by_cases e : i = d
        · subst e
          exact hd.pm.env hx.lv fun y _ _ a b _ _ _ h4 => (hd.env y a b h4).symm
        · have h3 := (k6 i (by omega) h2).env hx.lv (B := NS Z) fun y _ _ a b h4 _ _ _ => (hd.env y a b (fun z => by omega)).symm
          have h4 : (fun x => NS Y x i w.length) = fun x => NS Z x i w.length := by funext x; exact propext (hd.env x i w.length (fun z => e z.1)).symm
          rw [← h4]; exact h3
      · by_cases e : i = d
        · subst e; exact hd.full r c hr hc
        · intro m hm
          rw [hd.oth r c m i w.length (fun z => e z.2), k7 r c hr hc i (by omega) h2 m hm]
          exact (SeqS_env fun s _ _ a b h4 _ _ => hd.env s.Name a b (fun z => by omega)).symm

/-! ## A fresh set -/
theorem fresh_spec (K : Nat) (hK : 200000 ≤ K) (g : Grammar) (xs w : List Int) (X : List Chart_set) (hx : CX g xs w) :
    chart_Engine_fresh K ⟨g, xs, w, X⟩ = some ⟨List.replicate g.Names.length 0, g.Rules.map fun r => r.Conj.map fun c => List.replicate (c.Seq.length + 1) 0⟩ := by
  have q1 := hx.nl
  have q2 := hx.rl
  unfold chart_Engine_fresh
  rw [if_pos (by show (8 : Int) * (g.Names.length : Int) ≤ _; omega)]
  have hl1 : ∀ r, r < g.Rules.length → ∀ k c m, c + k = nc g r → k < m → chart_Engine_fresh.l1 K ⟨g, xs, w, X⟩ r m (((rd g.Rules (r : Int)).Conj.take c).map fun c => List.replicate (c.Seq.length + 1) (0 : Int), (c : Int)) = some ((rd g.Rules (r : Int)).Conj.map fun c => List.replicate (c.Seq.length + 1) (0 : Int), (nc g r : Int)) := by
    intro r hr k
    have q3 := hx.cl hr
    induction k with
    | zero =>
      intro c m hc hm
      obtain ⟨m, rfl⟩ : ∃ q, m = q + 1 := ⟨m - 1, by omega⟩
      have : c = nc g r := by omega
      subst this
      simp only [chart_Engine_fresh.l1]
      rw [if_neg (by show ¬ ((nc g r : Nat) : Int) < ((nc g r : Nat) : Int); omega)]
      simp
    | succ k ih =>
      intro c m hc hm
      obtain ⟨m, rfl⟩ : ∃ q, m = q + 1 := ⟨m - 1, by omega⟩
      have q4 := hx.ql hr (show c < nc g r by omega)
      have e1 : IntKind.wrap .i64 ((c : Int) + 1) = ((c + 1 : Nat) : Int) := by rw [wr (by omega) (by omega)]; omega
      have e2 : IntKind.wrap .i64 (((sq g r c).length : Int) + 1) = (((sq g r c).length + 1 : Nat) : Int) := by rw [wr (by omega) (by omega)]; omega
      simp only [chart_Engine_fresh.l1]
      simp only [e1]
      rw [if_pos (by show (c : Int) < ((nc g r : Nat) : Int); omega), if_pos (by omega), if_pos (by show 0 ≤ IntKind.wrap .i64 (((sq g r c).length : Int) + 1); rw [e2]; omega), if_pos (by show (8 : Int) * IntKind.wrap .i64 (((sq g r c).length : Int) + 1) ≤ _; rw [e2]; omega), if_pos (by rw [List.length_map, List.length_take]; have : (rd g.Rules (r : Int)).Conj.length ≤ 8 := q3; omega)]
      rw [← ih (c + 1) m (by omega) (by omega), take_succ_rd (show c < (rd g.Rules (r : Int)).Conj.length from show c < nc g r by omega), List.map_append]
      congr 2
      show _ = _ ++ [List.replicate ((sq g r c).length + 1) (0 : Int)]
      show _ ++ [List.replicate (IntKind.wrap .i64 (((sq g r c).length : Int) + 1)).toNat (0 : Int)] = _
      rw [e2, Int.toNat_natCast]
  have hl0 : ∀ k r m, r + k = g.Rules.length → k < m → chart_Engine_fresh.l0 K ⟨g, xs, w, X⟩ m ((g.Rules.take r).map fun r => r.Conj.map fun c => List.replicate (c.Seq.length + 1) (0 : Int), (r : Int)) = some (g.Rules.map fun r => r.Conj.map fun c => List.replicate (c.Seq.length + 1) (0 : Int), (g.Rules.length : Int)) := by
    intro k
    induction k with
    | zero =>
      intro r m hc hm
      obtain ⟨m, rfl⟩ : ∃ q, m = q + 1 := ⟨m - 1, by omega⟩
      have : r = g.Rules.length := by omega
      subst this
      simp only [chart_Engine_fresh.l0]
      rw [if_neg (by simp)]
      simp
    | succ k ih =>
      intro r m hc hm
      obtain ⟨m, rfl⟩ : ∃ q, m = q + 1 := ⟨m - 1, by omega⟩
      have e1 : IntKind.wrap .i64 ((r : Int) + 1) = ((r + 1 : Nat) : Int) := by rw [wr (by omega) (by omega)]; omega
      have q3 := hx.cl (show r < g.Rules.length by omega)
      have := hl1 r (by omega) (nc g r) 0 K (by omega) (by omega)
      simp only [List.take_zero, List.map_nil, Int.natCast_zero] at this
      simp only [chart_Engine_fresh.l0]
      simp only [e1]
      rw [if_pos (by show (r : Int) < (g.Rules.length : Int); omega), if_pos (by omega), this, Option.bind_some]
      simp only
      rw [if_pos (by simp; omega), ← ih (r + 1) m (by omega) (by omega), take_succ_rd (show r < g.Rules.length by omega), List.map_append]
      rfl
  have := hl0 g.Rules.length 0 K (by omega) (by omega)
  simp only [List.take_zero, List.map_nil, Int.natCast_zero] at this
  rw [this, Option.bind_some]
  rfl
theorem rd_map {A B : Type} [Inhabited A] [Inhabited B] {f : A → B} {l : List A} {k : Nat} (h : k < l.length) : rd (l.map f) (k : Int) = f (rd l (k : Int)) := by
  simp [rd, List.getD_eq_getElem?_getD, h]

/-! ## A turn -/
theorem turn_spec (K : Nat) (hK : 200000 ≤ K) (g : Grammar) (xs w : List Int) (X : List Chart_set) (hx : CX g xs w) (hl : X.length = w.length) (h : Shp g X)
    (hpm : ∀ i k, i ≤ k → k < w.length → PM1 g.Names.length g.Rules (rd xs) (HS (NS X) (wf w) i k) fun x => NS X x i k)
    (hp : ∀ r c, r < g.Rules.length → c < nc g r → ∀ i k, i ≤ k → k < w.length → Full g X (NS X) w i k r c) :
    ∃ X', chart_Engine_turn K ⟨g, xs, w, X⟩ = some ⟨g, xs, w, X'⟩ ∧ Good g xs w X' := by
  have q1 := hx.wl
  let s : Chart_set := ⟨List.replicate g.Names.length 0, g.Rules.map fun r => r.Conj.map fun c => List.replicate (c.Seq.length + 1) 0⟩
  have lt : ∀ k, k < w.length → rd (X ++ [s]) (k : Int) = rd X (k : Int) := fun k hk => rd_app_lt (by omega)
  have at_ : rd (X ++ [s]) (w.length : Int) = s := by rw [← hl]; exact rd_app_at
  have out : ∀ k, w.length < k → rd (X ++ [s]) (k : Int) = rd X (k : Int) := fun k hk => by rw [rd_out (by simp; omega), rd_out (by omega)]
  have hsg : ∀ k r c, k ≠ w.length → sg (X ++ [s]) k r c = sg X k r c := fun k r c hk => by
    unfold sg
    by_cases e : k < w.length
    · rw [lt k e]
    · rw [out k (by omega)]
  have hns : ∀ (x : Int) i k, k ≠ w.length → (NS (X ++ [s]) x i k ↔ NS X x i k) := fun x i k hk => by
    unfold NS
    by_cases e : k < w.length
    · rw [lt k e]
    · rw [out k (by omega)]
  have srow : ∀ r, r < g.Rules.length → rd s.begun (r : Int) = (rd g.Rules (r : Int)).Conj.map fun c => List.replicate (c.Seq.length + 1) 0 := fun r hr => rd_map hr
  have ssg : ∀ r c, r < g.Rules.length → c < nc g r → sg (X ++ [s]) w.length r c = List.replicate ((sq g r c).length + 1) 0 := fun r c hr hc => by
    unfold sg; rw [at_, srow r hr]; exact rd_map hc
  have rep0 : ∀ (n m : Nat), rd (List.replicate n (0 : Int)) (m : Int) = 0 := fun n m => by
    by_cases e : m < n
    · exact rd_rep 0 e
    · rw [rd_out (by simp; omega)]; rfl
  have hz : ∀ r c m i, ¬ BS (X ++ [s]) r c m i w.length := fun r c m i hh => by
    unfold BS at hh
    by_cases hr : r < g.Rules.length
    · by_cases hc : c < nc g r
      · rw [ssg r c hr hc, rep0, bit0] at hh; cases hh
      · have : sg (X ++ [s]) w.length r c = [] := by unfold sg; rw [at_, srow r hr, rd_out (by rw [List.length_map]; exact Nat.le_of_not_lt hc)]; rfl
        rw [this, rd_out (by simp)] at hh
        have : bit (default : Int) i = false := bit0 i
        rw [this] at hh; cases hh
    · have : sg (X ++ [s]) w.length r c = [] := by unfold sg; rw [at_, rd_out (xs := s.begun) (by simp [s]; omega)]; exact rd_out (by simp [default, instInhabitedList])
      rw [this, rd_out (by simp)] at hh
      have : bit (default : Int) i = false := bit0 i
      rw [this] at hh; cases hh
  have hn : ∀ (x : Int) i, ¬ NS (X ++ [s]) x i w.length := fun x i hh => by
    unfold NS at hh
    rw [at_] at hh
    have : rd s.names x = 0 := by
      obtain ⟨y, ey⟩ : ∃ y : Nat, rd s.names x = rd s.names (y : Int) := ⟨x.toNat, by unfold rd; rw [Int.toNat_natCast]⟩
      rw [ey]; exact rep0 _ _
    rw [this, bit0] at hh; cases hh
  have hshp : Shp g (X ++ [s]) := by
    have lk : ∀ k, k < (X ++ [s]).length → k = w.length ∨ k < w.length := fun k hk => by simp at hk; omega
    refine ⟨fun k hk => ?_, fun k hk x hx' => ?_, fun k hk => ?_, fun k hk r hr => ?_, fun k hk r hr c hc => ?_, fun k hk r hr c hc m hm => ?_⟩
    all_goals rcases lk k hk with e | e
    · rw [e, at_]; simp [s]
    · rw [lt k e]; exact h.n1 k (by omega)
    · rw [e, at_, show rd s.names (x : Int) = 0 from rep0 _ _]; exact okW0
    · rw [lt k e]; exact h.n2 k (by omega) x hx'
    · rw [e, at_]; simp [s]
    · rw [lt k e]; exact h.b1 k (by omega)
    · rw [e, at_, srow r hr, List.length_map]
    · rw [lt k e]; exact h.b2 k (by omega) r hr
    · rw [e, ssg r c hr hc]; simp
    · rw [hsg k r c (by omega)]; exact h.b3 k (by omega) r hr c hc
    · rw [e, ssg r c hr hc, rep0]; exact okW0
    · rw [hsg k r c (by omega)]; exact h.b4 k (by omega) r hr c hc m hm
  unfold chart_Engine_turn
  rw [fresh_spec K hK g xs w X hx, Option.bind_some, if_pos (by show (X.length + 1) * 48 ≤ _; omega)]
  obtain ⟨X', u, e1, hg⟩ := turn_l0 K hK g xs w (X ++ [s]) hx hshp (by simp [hl]) (fun i k hik hk => by
      have h1 := (hpm i k hik hk).env hx.lv (B := NS (X ++ [s])) fun y _ _ a b _ _ h3 _ => (hns y a b (by omega)).symm
      have h2 : (fun x => NS X x i k) = fun x => NS (X ++ [s]) x i k := by funext x; exact propext (hns x i k (by omega)).symm
      rw [← h2]; exact h1) (fun r c hr hc i k hik hk m hm => by
      have hb : BS (X ++ [s]) r c m i k ↔ BS X r c m i k := by unfold BS; rw [hsg k r c (by omega)]
      rw [hb, hp r c hr hc i k hik hk m hm]
      exact (SeqS_env fun s' _ _ a b _ _ h3 => hns s'.Name a b (by omega)).symm) hz hn
  erw [e1]
  exact ⟨X', rfl, hg⟩

/-! ## Made, fed, asked -/
theorem PM1.wd {n : Nat} {rs : List Rule} {lv : Int → Int} {N : Sp} {w w' : Nat → Int} {i j : Nat} {has : Int → Prop} (h : PM1 n rs lv (HS N w i j) has) (hw : ∀ k, k < j → w k = w' k) : PM1 n rs lv (HS N w' i j) has := by
  have a : ∀ {M : Int → Prop} {r : Rule}, HS N w i j M r → HS N w' i j M r := fun hH => RuleS_word hw hH
  have b : ∀ {M : Int → Prop} {r : Rule}, HS N w' i j M r → HS N w i j M r := fun hH => RuleS_word (fun k hk => (hw k hk).symm) hH
  exact ⟨fun r hr hH => h.cl r hr (b hH), fun x x1 x2 hx => let ⟨r, hr, e, hH⟩ := h.su x x1 x2 hx; ⟨r, hr, e, a hH⟩, fun t M hM hc => h.mi t M hM fun r hr ht hH => hc r hr ht (a hH)⟩
/-- An engine that was fed w. -/
def EngC (g : Grammar) (xs w : List Int) (e : Chart_Engine) : Prop := ∃ X, e = ⟨g, xs, w, X⟩ ∧ CX g xs w ∧ Good g xs w X
theorem cFeed_spec (K : Nat) (hK : 200000 ≤ K) {g : Grammar} {xs w : List Int} {e : Chart_Engine} (h : EngC g xs w e) (c : Int) :
    (c < 0 ∨ 255 < c) ∧ chart_Engine_Feed K e c = some (1600, e) ∨ (0 ≤ c ∧ c ≤ 255) ∧ w.length = 32 ∧ chart_Engine_Feed K e c = some (1601, e) ∨
    (0 ≤ c ∧ c ≤ 255) ∧ w.length < 32 ∧ ∃ e', chart_Engine_Feed K e c = some (0, e') ∧ EngC g xs (w ++ [c]) e' := by
  obtain ⟨X, rfl, hx, hg⟩ := h
  have q1 := hx.wl
  unfold chart_Engine_Feed
  by_cases h1 : c < 0
  · rw [if_pos h1]; exact .inl ⟨.inl h1, rfl⟩
  · rw [if_neg h1]
    by_cases h2 : 255 < c
    · rw [if_pos h2]; exact .inl ⟨.inr h2, rfl⟩
    · rw [if_neg h2]
      by_cases h3 : 32 ≤ (w.length : Int)
      · rw [if_pos h3]; exact .inr (.inl ⟨by omega, by omega, rfl⟩)
      · rw [if_neg h3]
        refine .inr (.inr ⟨by omega, by omega, ?_⟩)
        have hw : ∀ k, k < w.length → wf (w ++ [c]) k = wf w k := fun k hk => rd_app_lt hk
        have hx' : CX g xs (w ++ [c]) := ⟨hx.may, hx.xl, hx.lv, hx.l0, hx.l1, by simp; omega, fun k hk => by
          by_cases e : k < w.length
          · rw [rd_app_lt e]; exact hx.wb k e
          · have : k = w.length := by simp at hk; omega
            subst this
            rw [rd_app_at]; omega⟩
        obtain ⟨X', et, hg'⟩ := turn_spec K hK g xs (w ++ [c]) X hx' (by simp [hg.len]) hg.shp (fun i k hik hk => (hg.pm i k hik (by simp at hk; omega)).wd fun q hq => (hw q (by simp at hk; omega)).symm) (fun r cc hr hc i k hik hk m hm => by
          rw [hg.full r cc hr hc i k hik (by simp at hk; omega) m hm]
          exact ⟨SeqS_word fun q hq => (hw q (by simp at hk; omega)).symm, SeqS_word fun q hq => hw q (by simp at hk; omega)⟩)
        rw [if_pos (by show (w.length + 1) * 1 ≤ _; omega), wb (by omega) (by omega)]
        erw [et]
        exact ⟨_, rfl, X', rfl, hx', hg'⟩
theorem cIn_spec (K : Nat) {g : Grammar} {xs w : List Int} {e : Chart_Engine} (h : EngC g xs w e) : ∃ b, chart_Engine_In K e = some b ∧ ∃ N, PMs g.Names.length g.Rules (rd xs) (wf w) w.length N ∧ (b = true ↔ N g.Start 0 w.length) := by
  obtain ⟨X, rfl, hx, hg⟩ := h
  have hm := hx.may
  have n1 := hg.shp.n1 w.length (by rw [hg.len]; omega)
  have hlen := hg.len
  obtain ⟨s, es⟩ : ∃ s : Nat, g.Start = (s : Int) := ⟨g.Start.toNat, by have := hm.2.1; omega⟩
  have n2 := hg.shp.n2 w.length (by rw [hg.len]; omega) s (by have := hm.2.2.1; omega)
  unfold chart_Engine_In
  rw [if_pos (by show (w.length : Int) < (X.length : Int); omega), if_pos hm.2.1, if_pos (by show g.Start < _; rw [n1]; exact hm.2.2.1)]
  refine ⟨_, rfl, NS X, hg.pm, ?_⟩
  rw [decide_eq_true_eq]
  show (iand .u64 (rd (rd X (w.length : Int)).names g.Start) 1) = 1 ↔ bit (rd (rd X (w.length : Int)).names g.Start) 0 = true
  rw [es, and_one n2]
  exact iff1 (p := True) (by decide) _
theorem cLen_spec (K : Nat) {g : Grammar} {xs w : List Int} {e : Chart_Engine} (h : EngC g xs w e) : chart_Engine_Len K e = some (w.length : Int) := by
  obtain ⟨X, rfl, _, _⟩ := h; rfl
end Go.Proofs.Ytpjhcllohagjoaa

/-! PMc -/
namespace Go.Proofs.Ytpjhcllohagjoaa
open S
set_option linter.unusedVariables false
set_option linter.unusedSimpArgs false

theorem lvS_ok {g : Grammar} {xs : List Int} (hm : mayP g) (hx : Lev g.Names.length (edgesOf g) xs) : LvS g.Names.length g.Rules (rd xs) := fun r hr => by
  have h1 := may_heads hm r hr
  refine ⟨⟨h1.1, h1.2.1⟩, fun c hc s hs h0 => ?_⟩
  have ho : Occ g (eOf r c s) := ⟨r, hr, c, hc, s, hs, h0, rfl⟩
  have h2 := occ_bounds hm ho
  have h3 := hx.2 _ ((mem_edges g _).2 ho)
  exact ⟨h2.2.2.2, h3⟩
theorem StrOut.fine {g : Grammar} {r : List Int × List Int × Int} (h : StrOut g r) (h0 : r.2.2 = 0) : mayP g ∧ (∀ e ∈ edgesOf g, ¬ Cyc (edgesOf g) e) ∧ ∃ xs, Lev g.Names.length (edgesOf g) xs ∧ r = (xs, [], 0) := by
  rcases h with ⟨_, rfl⟩ | ⟨hm, ⟨c, hc, rfl⟩ | ⟨hno, xs, hx, rfl⟩⟩
  · exact absurd h0 (show (800 : Int) ≠ 0 by decide)
  · exact absurd h0 (show (801 : Int) ≠ 0 by decide)
  · exact ⟨hm, hno, xs, hx, rfl⟩
/-- A grammar's levels. -/
structure LvF (g : Grammar) (xs : List Int) : Prop where
  may : mayP g
  xl : xs.length = g.Names.length
  lv : LvS g.Names.length g.Rules (rd xs)
  l0 : ∀ y : Int, 0 ≤ y → y < g.Names.length → 0 ≤ rd xs y
  l1 : ∀ y : Int, 0 ≤ y → y < g.Names.length → rd xs y ≤ (g.Names.length : Int) - 1
theorem StrOut.lvf {g : Grammar} {xs : List Int} (h : StrOut g (xs, [], 0)) : LvF g xs := by
  obtain ⟨hm, hno, ys, hx, e⟩ := h.fine rfl
  cases e
  obtain ⟨P, p1, p2, p3⟩ := pot_of hm hno
  exact ⟨hm, hx.1.1, lvS_ok hm hx, hx.1.2.1, fun y a b => by
    have := hx.1.2.2 P p1 p2 y a b
    have := p3 y a b
    omega⟩

/-! ## Copies -/
theorem mcopy_l1 (K : Nat) (hK : 1000 ≤ K) (g : Grammar) (hg : Bd g) (i : Nat) (hi : i < g.Rules.length) : ∀ (k j m : Nat), j + k = (rd g.Rules (i : Int)).Conj.length → k < m → mean_Copy.l1 K g i m ((rd g.Rules (i : Int)).Conj.take j, (j : Int)) = some ((rd g.Rules (i : Int)).Conj, ((rd g.Rules (i : Int)).Conj.length : Int))
  | 0, j, m, hj, hm => by
    obtain ⟨m, rfl⟩ : ∃ q, m = q + 1 := ⟨m - 1, by omega⟩
    simp only [mean_Copy.l1]
    rw [if_neg (by omega), List.take_of_length_le (by omega)]
    have : j = (rd g.Rules (i : Int)).Conj.length := by omega
    rw [this]
  | k + 1, j, m, hj, hm => by
    obtain ⟨m, rfl⟩ : ∃ q, m = q + 1 := ⟨m - 1, by omega⟩
    have ih := mcopy_l1 K hK g hg i hi k (j + 1) m (by omega) (by omega)
    have hr := hg.2 _ (rd_mem' hi)
    have h8 := hr.1
    have hc := hr.2 _ (rd_mem (xs := (rd g.Rules (i : Int)).Conj) (i := (j : Int)) (by omega) (by omega))
    simp only [mean_Copy.l1]
    rw [if_pos (by omega), if_pos (by omega), if_pos (by omega), if_pos (by rw [List.length_take]; simp only [List.length_cons, List.length_nil]; omega), wr (a := (j : Int) + 1) (by omega) (by omega)]
    have e : (⟨(rd (rd g.Rules (i : Int)).Conj (j : Int)).Neg, (rd (rd g.Rules (i : Int)).Conj (j : Int)).Seq⟩ : Conjunct) = rd (rd g.Rules (i : Int)).Conj (j : Int) := rfl
    rw [e, ← take_succ_rd (by omega)]
    simpa using ih
theorem mcopy_l0 (K : Nat) (hK : 1000 ≤ K) (g : Grammar) (hg : Bd g) : ∀ (k i m : Nat), i + k = g.Rules.length → k < m → mean_Copy.l0 K g m (g.Rules.take i, (i : Int)) = some (g.Rules, (g.Rules.length : Int))
  | 0, i, m, hi, hm => by
    obtain ⟨m, rfl⟩ : ∃ q, m = q + 1 := ⟨m - 1, by omega⟩
    simp only [mean_Copy.l0]
    rw [if_neg (by omega), List.take_of_length_le (by omega)]
    have : i = g.Rules.length := by omega
    rw [this]
  | k + 1, i, m, hi, hm => by
    obtain ⟨m, rfl⟩ : ∃ q, m = q + 1 := ⟨m - 1, by omega⟩
    have ih := mcopy_l0 K hK g hg k (i + 1) m (by omega) (by omega)
    have h2 := hg.1
    have h8 := (hg.2 _ (rd_mem' (show i < g.Rules.length by omega))).1
    have h1 := mcopy_l1 K hK g hg i (by omega) (rd g.Rules (i : Int)).Conj.length 0 K (by omega) (by omega)
    rw [show ((0 : Nat) : Int) = 0 from rfl, List.take_zero] at h1
    simp only [mean_Copy.l0]
    rw [if_pos (by omega), if_pos (by omega), h1, Option.bind_some]
    simp only
    rw [if_pos (by rw [List.length_take]; simp only [List.length_cons, List.length_nil]; omega), wr (a := (i : Int) + 1) (by omega) (by omega)]
    have e : (⟨(rd g.Rules (i : Int)).Head, (rd g.Rules (i : Int)).Conj⟩ : Rule) = rd g.Rules (i : Int) := rfl
    rw [e, ← take_succ_rd (by omega)]
    simpa using ih
theorem mCopy_spec (K : Nat) (hK : 1000 ≤ K) (g : Grammar) (hm : mayP g) : mean_Copy K g = some g := by
  have hg := may_bd hm
  have h64 := hm.1.2.1
  have h1 := mcopy_l0 K hK g hg g.Rules.length 0 K (by omega) (by have := hg.1; omega)
  rw [show ((0 : Nat) : Int) = 0 from rfl, List.take_zero] at h1
  unfold mean_Copy
  rw [if_pos (by omega), Option.bind_some, h1, Option.bind_some]
end Go.Proofs.Ytpjhcllohagjoaa

/-! PChF -/
namespace Go.Proofs.Ytpjhcllohagjoaa
open S
set_option linter.unusedVariables false
set_option linter.unusedSimpArgs false

theorem cNew_spec (K : Nat) (hK : 200000 ≤ K) (g : Grammar) : (∃ s, StrOut g s ∧ s.2.2 ≠ 0 ∧ chart_New K g = some (none, 1600)) ∨ ∃ xs e, StrOut g (xs, [], 0) ∧ chart_New K g = some (some e, 0) ∧ EngC g xs [] e := by
  obtain ⟨s, hs, ho⟩ := Strata_spec K hK g
  unfold chart_New
  rw [hs, Option.bind_some]
  by_cases h0 : s.2.2 = 0
  · obtain ⟨hm, hno, xs, hx, rfl⟩ := ho.fine h0
    rw [if_neg (fun h => h rfl), mCopy_spec K (by omega) g hm, Option.bind_some]
    have hf := ho.lvf
    have hx : CX g xs [] := ⟨hf.may, hf.xl, hf.lv, hf.l0, hf.l1, by simp, fun k hk => by simp at hk⟩
    obtain ⟨X, et, hg⟩ := turn_spec K hK g xs [] [] hx rfl ⟨fun k hk => by simp at hk, fun k hk => by simp at hk, fun k hk => by simp at hk, fun k hk => by simp at hk, fun k hk => by simp at hk, fun k hk => by simp at hk⟩ (fun i k _ hk => by simp at hk) (fun r c _ _ i k _ hk => by simp at hk)
    refine .inr ⟨xs, ⟨g, xs, [], X⟩, ho, ?_, X, rfl, hx, hg⟩
    erw [et]
    rfl
  · rw [if_pos h0]
    exact .inl ⟨s, ho, h0, rfl⟩
end Go.Proofs.Ytpjhcllohagjoaa

/-! PLang -/
namespace Go.Proofs.Ytpjhcllohagjoaa
open S
set_option linter.unusedVariables false
set_option linter.unusedSimpArgs false

/-! ## Whatever the levels -/
theorem RuleS_occ {w : Nat → Int} {r : Rule} {A B : Sp} {i j : Nat} (h : ∀ c ∈ r.Conj, ∀ s ∈ c.Seq, 0 ≤ s.Name → ∀ a b, i ≤ a → a ≤ b → b ≤ j → (A s.Name a b → B s.Name a b) ∧ (c.Neg = true → B s.Name a b → A s.Name a b)) (hr : RuleS A w r i j) : RuleS B w r i j := by
  intro c hc
  have hh := hr c hc
  have up : SeqS A w c.Seq i j → SeqS B w c.Seq i j := SeqS_mono fun s hs h0 a b h1 h2 h3 => (h c hc s hs h0 a b h1 h2 h3).1
  constructor
  · intro hn hb
    exact hh.1 hn (SeqS_mono (fun s hs h0 a b h1 h2 h3 => (h c hc s hs h0 a b h1 h2 h3).2 hn) hb)
  · intro hb
    exact hh.2 fun ha => hb (up ha)
theorem PM1.two {n : Nat} {rs : List Rule} {lv lv' : Int → Int} {w : Nat → Int} {N : Sp} {i j : Nat} (hl : LvS n rs lv) (hl' : LvS n rs lv') (h0 : ∀ y : Int, 0 ≤ y → y < n → 0 ≤ lv y) (h0' : ∀ y : Int, 0 ≤ y → y < n → 0 ≤ lv' y) {A B : Int → Prop}
    (hA : PM1 n rs lv (HS N w i j) A) (hB : PM1 n rs lv' (HS N w i j) B) : ∀ x : Int, 0 ≤ x → x < n → (A x ↔ B x) := by
  have key : ∀ t : Nat, ∀ x : Int, 0 ≤ x → x < n → lv x < t → (A x ↔ B x) := by
    intro t
    induction t with
    | zero => intro x h1 h2 h3; have := h0 x h1 h2; omega
    | succ t ih =>
      have ab : ∀ x : Int, 0 ≤ x → x < n → lv x = t → A x → B x := fun x h1 h2 h3 => hA.mi t B (fun y y1 y2 y3 => (ih y y1 y2 y3).symm) (fun r hr _ h => hB.cl r hr h) x h1 h2 h3
      have ba : ∀ t' : Nat, ∀ x : Int, 0 ≤ x → x < n → lv x = t → lv' x < t' → B x → A x := by
        intro t'
        induction t' with
        | zero => intro x h1 h2 _ h3; have := h0' x h1 h2; omega
        | succ t' ih' =>
          intro x h1 h2 h3 h4
          by_cases h5 : lv' x < t'
          · exact ih' x h1 h2 h3 h5
          · intro hb
            have := hB.mi t' (fun y => if lv y = t ∧ lv' y = t' then A y else B y) (fun y y1 y2 y3 => by rw [if_neg (fun z => by omega)]) (fun r hr ht hH => ?_) x h1 h2 (by omega) hb
            · rwa [if_pos ⟨h3, by omega⟩] at this
            · have hb := hl r hr
              have hb' := hl' r hr
              by_cases e : lv r.Head = t
              · rw [if_pos ⟨e, ht⟩]
                refine hA.cl r hr (RuleS_occ (fun c hc s hs hs0 a b _ _ _ => ?_) hH)
                have q := hb.2 c hc s hs hs0
                have q' := hb'.2 c hc s hs hs0
                unfold upd
                by_cases hab : a = i ∧ b = j
                · rw [if_pos hab, if_pos hab]
                  constructor
                  · intro hm
                    by_cases e2 : lv s.Name = t ∧ lv' s.Name = t'
                    · rwa [if_pos e2] at hm
                    · rw [if_neg e2] at hm
                      by_cases e3 : lv s.Name < t
                      · exact (ih _ hs0 q.1 e3).2 hm
                      · have e4 : lv s.Name = t := by
                          have := q.2; split at this <;> omega
                        exact ih' _ hs0 q.1 e4 (by have := q'.2; split at this <;> omega) hm
                  · intro hn ha
                    rw [hn] at q
                    have e3 : lv s.Name < t := by have := q.2; simp at this; omega
                    rw [if_neg (fun z => by omega)]
                    exact (ih _ hs0 q.1 e3).1 ha
                · rw [if_neg hab, if_neg hab]; exact ⟨id, fun _ => id⟩
              · rw [if_neg (fun z => e z.1)]
                refine hB.cl r hr (RuleS_occ (fun c hc s hs hs0 a b _ _ _ => ?_) hH)
                have q := hb.2 c hc s hs hs0
                have q' := hb'.2 c hc s hs hs0
                unfold upd
                by_cases hab : a = i ∧ b = j
                · rw [if_pos hab, if_pos hab]
                  constructor
                  · intro hm
                    by_cases e2 : lv s.Name = t ∧ lv' s.Name = t'
                    · rw [if_pos e2] at hm
                      exact ab _ hs0 q.1 e2.1 hm
                    · rwa [if_neg e2] at hm
                  · intro hn hbb
                    rw [hn] at q'
                    rw [if_neg (fun z => by have := q'.2; simp at this; omega)]
                    exact hbb
                · rw [if_neg hab, if_neg hab]; exact ⟨id, fun _ => id⟩
      intro x h1 h2 h3
      by_cases h4 : lv x < t
      · exact ih x h1 h2 h4
      · have h5 : lv x = t := by omega
        exact ⟨ab x h1 h2 h5, ba (lv' x + 1).toNat x h1 h2 h5 (by have := h0' x h1 h2; omega)⟩
  intro x h1 h2
  exact key (lv x + 1).toNat x h1 h2 (by have := h0 x h1 h2; omega)
theorem PMs.two {n : Nat} {rs : List Rule} {lv lv' : Int → Int} {w : Nat → Int} {L : Nat} (hl : LvS n rs lv) (hl' : LvS n rs lv') (h0 : ∀ y : Int, 0 ≤ y → y < n → 0 ≤ lv y) (h0' : ∀ y : Int, 0 ≤ y → y < n → 0 ≤ lv' y) {A B : Sp} (hA : PMs n rs lv w L A) (hB : PMs n rs lv' w L B) : ∀ i j, i ≤ j → j ≤ L → ∀ x : Int, 0 ≤ x → x < n → (A x i j ↔ B x i j) := by
  have key : ∀ d i j, j - i < d → i ≤ j → j ≤ L → ∀ x : Int, 0 ≤ x → x < n → (A x i j ↔ B x i j) := by
    intro d
    induction d with
    | zero => intro i j h; omega
    | succ d ih =>
      intro i j hd hij hj
      have e : ∀ y : Int, 0 ≤ y → y < n → ∀ a b, i ≤ a → a ≤ b → b ≤ j → ¬ (a = i ∧ b = j) → (A y a b ↔ B y a b) := fun y y1 y2 a b h1 h2 h3 h4 => ih a b (by omega) h2 (by omega) y y1 y2
      exact PM1.two hl hl' h0 h0' ((hA i j hij hj).env hl e) (hB i j hij hj)
  intro i j hij hj
  exact key (j - i + 1) i j (by omega) hij hj

/-! ## A model by hand -/
theorem PMs.of {n : Nat} {rs : List Rule} {lv : Int → Int} {w : Nat → Int} {L : Nat} {N : Sp} (cl : ∀ r ∈ rs, ∀ i j, i ≤ j → j ≤ L → RuleS N w r i j → N r.Head i j)
    (su : ∀ x : Int, 0 ≤ x → x < n → ∀ i j, i ≤ j → j ≤ L → N x i j → ∃ r ∈ rs, r.Head = x ∧ ∀ M : Int → Prop, (∀ y : Int, 0 ≤ y → y < n → lv y < lv x → (M y ↔ N y i j)) → RuleS (upd N i j M) w r i j) : PMs n rs lv w L N := fun i j hij hj =>
  ⟨fun r hr hH => cl r hr i j hij hj (by unfold HS at hH; rwa [upd_self] at hH), fun x h1 h2 hx => let ⟨r, hr, e, hh⟩ := su x h1 h2 i j hij hj hx; ⟨r, hr, e, hh (fun y => N y i j) fun _ _ _ _ => Iff.rfl⟩, fun t M hM hc y h1 h2 hy hx => by
    obtain ⟨r, hr, e, hh⟩ := su y h1 h2 i j hij hj hx
    rw [← e]
    exact hc r hr (by rw [e]; exact hy) (hh M fun z z1 z2 z3 => hM z z1 z2 (by omega))⟩
theorem Rule1 {N : Sp} {w : Nat → Int} {h : Int} {l : List Symbol} {i j : Nat} : RuleS N w ⟨h, [⟨false, l⟩]⟩ i j ↔ SeqS N w l i j := by
  unfold RuleS
  simp
theorem Rule1n {N : Sp} {w : Nat → Int} {h : Int} {l : List Symbol} {i j : Nat} : RuleS N w ⟨h, [⟨true, l⟩]⟩ i j ↔ ¬ SeqS N w l i j := by
  unfold RuleS
  simp
theorem Seq_nil {N : Sp} {w : Nat → Int} {i j : Nat} : SeqS N w [] i j ↔ i = j := Iff.rfl
theorem Seq_byte {N : Sp} {w : Nat → Int} {lo hi : Int} {l : List Symbol} {i j : Nat} : SeqS N w (⟨-1, lo, hi⟩ :: l) i j ↔ (i < j ∧ lo ≤ w i ∧ w i ≤ hi) ∧ SeqS N w l (i + 1) j := by
  constructor
  · rintro ⟨k, h1, h2, h3, h4⟩
    unfold SymS at h3
    rw [if_neg (show ¬ (0 : Int) ≤ -1 by decide)] at h3
    obtain ⟨e, h5, h6⟩ := h3
    subst e
    exact ⟨⟨by omega, h5, h6⟩, h4⟩
  · rintro ⟨⟨h1, h2, h3⟩, h4⟩
    exact ⟨i + 1, by omega, by omega, by unfold SymS; rw [if_neg (show ¬ (0 : Int) ≤ -1 by decide)]; exact ⟨rfl, h2, h3⟩, h4⟩
theorem Seq_name {N : Sp} {w : Nat → Int} {x a b : Int} {l : List Symbol} {i j : Nat} (h0 : 0 ≤ x) : SeqS N w (⟨x, a, b⟩ :: l) i j ↔ ∃ k, i ≤ k ∧ k ≤ j ∧ N x i k ∧ SeqS N w l k j := by
  have e : ∀ k, SymS N w ⟨x, a, b⟩ i k ↔ N x i k := fun k => by unfold SymS; rw [if_pos h0]
  show (∃ k, i ≤ k ∧ k ≤ j ∧ SymS N w ⟨x, a, b⟩ i k ∧ SeqS N w l k j) ↔ _
  simp only [e]
theorem Seq_name1 {N : Sp} {w : Nat → Int} {x a b : Int} {i j : Nat} (h0 : 0 ≤ x) (hij : i ≤ j) : SeqS N w [⟨x, a, b⟩] i j ↔ N x i j := by
  rw [Seq_name h0]
  exact ⟨fun ⟨k, _, _, h, e⟩ => by rw [Seq_nil] at e; rwa [← e], fun h => ⟨j, hij, Nat.le_refl _, h, rfl⟩⟩
theorem upd_at {N : Sp} {i j : Nat} {M : Int → Prop} {x : Int} : upd N i j M x i j ↔ M x := by unfold upd; rw [if_pos ⟨rfl, rfl⟩]
theorem upd_off {N : Sp} {i j a b : Nat} {M : Int → Prop} {x : Int} (h : ¬ (a = i ∧ b = j)) : upd N i j M x a b ↔ N x a b := by unfold upd; rw [if_neg h]
/-- A grammar with levels is stratified. -/
theorem reach_lv {g : Grammar} (hm : mayP g) {lv : Int → Int} (hl : LvS g.Names.length g.Rules lv) {a b : Int} (h : Reach (edgesOf g) a b) : lv b ≤ lv a := by
  induction h with
  | refl => exact Int.le_refl _
  | @step e _ he ih =>
    obtain ⟨r, hr, c, hc, s, hs, h0, rfl⟩ := (mem_edges g _).1 he
    have := ((hl r hr).2 c hc s hs h0).2
    have ih' : lv r.Head ≤ lv a := ih
    show lv s.Name ≤ lv a
    split at this <;> omega
theorem strOut_of {g : Grammar} (hm : mayP g) {lv : Int → Int} (hl : LvS g.Names.length g.Rules lv) {r : List Int × List Int × Int} (h : StrOut g r) : r.2.2 = 0 := by
  rcases h with ⟨hn, _⟩ | ⟨_, ⟨c, ⟨i, hi, hc, _⟩, _⟩ | ⟨_, xs, _, rfl⟩⟩
  · exact (hn hm).elim
  · have hmem := rd_mem' hi
    obtain ⟨q, hq, c, hc2, s, hs, h0, e⟩ := (mem_edges g _).1 hmem
    have h1 := ((hl q hq).2 c hc2 s hs h0).2
    have h2 := reach_lv hm hl hc.2
    have h3 := hc.1
    rw [e] at h2 h3
    have h3' : c.Neg = true := h3
    rw [h3'] at h1
    have h2' : lv q.Head ≤ lv s.Name := h2
    simp at h1
    omega
  · rfl

/-! ## Plain: no row of a -/
def gPlain : Grammar := (⟨(0 : Int), ([(⟨#[83]⟩ : ByteArray), (⟨#[88]⟩ : ByteArray)] : List ByteArray), ([(⟨(0 : Int), ([(⟨true, ([(⟨1, (0 : Int), (0 : Int)⟩ : Symbol)] : List Symbol)⟩ : Conjunct)] : List Conjunct)⟩ : Rule), (⟨1, ([(⟨false, ([(⟨(-1), 97, 97⟩ : Symbol), (⟨1, (0 : Int), (0 : Int)⟩ : Symbol)] : List Symbol)⟩ : Conjunct)] : List Conjunct)⟩ : Rule), (⟨1, ([(⟨false, ([(⟨(-1), 97, 97⟩ : Symbol)] : List Symbol)⟩ : Conjunct)] : List Conjunct)⟩ : Rule)] : List Rule)⟩ : Grammar)
theorem plain_may : mayP gPlain := by
  obtain ⟨b, h1, h2⟩ := gMay_spec 1000 (Nat.le_refl _) gPlain
  refine h2.1 ?_
  have : gram_May 1000 gPlain = some true := by kernel_rfl
  rw [this] at h1; exact (Option.some.inj h1).symm
def lvPl (y : Int) : Int := if y = 0 then 1 else 0
theorem plain_lv : LvS gPlain.Names.length gPlain.Rules lvPl := by
  intro r hr
  simp only [gPlain, List.mem_cons, List.not_mem_nil, or_false] at hr
  rcases hr with rfl | rfl | rfl <;> simp [gPlain, lvPl]
def allA (w : Nat → Int) (i j : Nat) : Prop := ∀ k, i ≤ k → k < j → w k = 97
def NP (w : Nat → Int) : Sp := fun x i j => if x = 0 then ¬ (i < j ∧ allA w i j) else i < j ∧ allA w i j
theorem plain_pm (w : Nat → Int) (L : Nat) : PMs gPlain.Names.length gPlain.Rules lvPl w L (NP w) := by
  have n0 : ∀ i j, NP w 0 i j ↔ ¬ (i < j ∧ allA w i j) := fun i j => by unfold NP; rw [if_pos rfl]
  have n1 : ∀ i j, NP w 1 i j ↔ (i < j ∧ allA w i j) := fun i j => by unfold NP; rw [if_neg (by decide)]
  refine PMs.of (fun r hr i j hij hj h => ?_) fun x x0 x1 i j hij hj hx => ?_
  · simp only [gPlain, List.mem_cons, List.not_mem_nil, or_false] at hr
    rcases hr with rfl | rfl | rfl
    · rw [Rule1n, Seq_name1 (by decide) hij, n1] at h
      exact (n0 i j).2 h
    · rw [Rule1, Seq_byte] at h
      obtain ⟨⟨h1, h2, h3⟩, h4⟩ := h
      rw [Seq_name1 (by decide) (by omega), n1] at h4
      refine (n1 i j).2 ⟨h1, fun k k1 k2 => ?_⟩
      by_cases e : k = i
      · subst e; omega
      · exact h4.2 k (by omega) k2
    · rw [Rule1, Seq_byte, Seq_nil] at h
      obtain ⟨⟨h1, h2, h3⟩, h4⟩ := h
      refine (n1 i j).2 ⟨h1, fun k k1 k2 => ?_⟩
      have e : k = i := by omega
      subst e; omega
  · have hx2 : x = 0 ∨ x = 1 := by have : (gPlain.Names.length : Int) = 2 := rfl; omega
    rcases hx2 with rfl | rfl
    · refine ⟨_, .head _, rfl, fun M hM => ?_⟩
      rw [Rule1n, Seq_name1 (by decide) hij, upd_at, hM 1 (by decide) (by decide) (by decide), n1]
      exact (n0 i j).1 hx
    · obtain ⟨h1, h2⟩ := (n1 i j).1 hx
      have hi := h2 i (Nat.le_refl _) h1
      by_cases e : i + 1 = j
      · refine ⟨_, .tail _ (.tail _ (.head _)), rfl, fun M _ => ?_⟩
        rw [Rule1, Seq_byte, Seq_nil]
        exact ⟨⟨h1, by omega, by omega⟩, e⟩
      · refine ⟨_, .tail _ (.head _), rfl, fun M _ => ?_⟩
        rw [Rule1, Seq_byte, Seq_name1 (by decide) (by omega), upd_off (fun z => by omega), n1]
        exact ⟨⟨h1, by omega, by omega⟩, by omega, fun k k1 k2 => h2 k (by omega) k2⟩

/-! ## Odds: the same from both ends -/
def gOdds : Grammar := (⟨(0 : Int), ([(⟨#[83]⟩ : ByteArray)] : List ByteArray), ([(⟨(0 : Int), ([(⟨false, ([(⟨(-1), 97, 97⟩ : Symbol), (⟨(0 : Int), (0 : Int), (0 : Int)⟩ : Symbol), (⟨(-1), 97, 97⟩ : Symbol)] : List Symbol)⟩ : Conjunct)] : List Conjunct)⟩ : Rule), (⟨(0 : Int), ([(⟨false, ([(⟨(-1), 98, 98⟩ : Symbol), (⟨(0 : Int), (0 : Int), (0 : Int)⟩ : Symbol), (⟨(-1), 98, 98⟩ : Symbol)] : List Symbol)⟩ : Conjunct)] : List Conjunct)⟩ : Rule), (⟨(0 : Int), ([(⟨false, ([] : (List Symbol))⟩ : Conjunct)] : List Conjunct)⟩ : Rule), (⟨(0 : Int), ([(⟨false, ([(⟨(-1), 97, 98⟩ : Symbol)] : List Symbol)⟩ : Conjunct)] : List Conjunct)⟩ : Rule)] : List Rule)⟩ : Grammar)
theorem odds_may : mayP gOdds := by
  obtain ⟨b, h1, h2⟩ := gMay_spec 1000 (Nat.le_refl _) gOdds
  refine h2.1 ?_
  have : gram_May 1000 gOdds = some true := by kernel_rfl
  rw [this] at h1; exact (Option.some.inj h1).symm
theorem odds_lv : LvS gOdds.Names.length gOdds.Rules fun _ => 0 := by
  intro r hr
  simp only [gOdds, List.mem_cons, List.not_mem_nil, or_false] at hr
  rcases hr with rfl | rfl | rfl | rfl <;> simp [gOdds]
def NO (w : Nat → Int) : Sp := fun _ i j => (∀ k, i ≤ k → k < j → w k = 97 ∨ w k = 98) ∧ ∀ k, i ≤ k → k < j → w k = w (i + j - 1 - k)
theorem odds_in {w : Nat → Int} {x y : Int} {i j : Nat} (h : i + 1 < j) (c : Int) (hc : c = 97 ∨ c = 98) (h1 : w i = c) (h2 : w (j - 1) = c) (h3 : NO w x (i + 1) (j - 1)) : NO w y i j := by
  refine ⟨fun k k1 k2 => ?_, fun k k1 k2 => ?_⟩
  · by_cases e : k = i
    · subst e; omega
    · by_cases e2 : k = j - 1
      · subst e2; omega
      · exact h3.1 k (by omega) (by omega)
  · by_cases e : k = i
    · subst e; rw [show k + j - 1 - k = j - 1 by omega, h1, h2]
    · by_cases e2 : k = j - 1
      · subst e2; rw [show i + j - 1 - (j - 1) = i by omega, h1, h2]
      · have := h3.2 k (by omega) (by omega)
        rwa [show i + 1 + (j - 1) - 1 - k = i + j - 1 - k by omega] at this
theorem odds_pm (w : Nat → Int) (L : Nat) : PMs gOdds.Names.length gOdds.Rules (fun _ => 0) w L (NO w) := by
  have rule : ∀ (N : Sp) (c : Int) i j, SeqS N w [⟨-1, c, c⟩, ⟨0, 0, 0⟩, ⟨-1, c, c⟩] i j ↔ i + 1 < j ∧ w i = c ∧ w (j - 1) = c ∧ N 0 (i + 1) (j - 1) := fun N c i j => by
    rw [Seq_byte, Seq_name (by decide)]
    constructor
    · rintro ⟨⟨h1, h2, h3⟩, k, h4, h5, h6, h7⟩
      rw [Seq_byte, Seq_nil] at h7
      obtain ⟨⟨h8, h9, h10⟩, h11⟩ := h7
      have e : k = j - 1 := by omega
      subst e
      exact ⟨by omega, by omega, by omega, h6⟩
    · rintro ⟨h1, h2, h3, h4⟩
      exact ⟨⟨by omega, by omega, by omega⟩, j - 1, by omega, by omega, h4, by rw [Seq_byte, Seq_nil]; exact ⟨⟨by omega, by omega, by omega⟩, by omega⟩⟩
  refine PMs.of (fun r hr i j hij hj h => ?_) fun x x0 x1 i j hij hj hx => ?_
  · simp only [gOdds, List.mem_cons, List.not_mem_nil, or_false] at hr
    rcases hr with rfl | rfl | rfl | rfl
    · rw [Rule1, rule] at h
      exact odds_in h.1 97 (.inl rfl) h.2.1 h.2.2.1 h.2.2.2
    · rw [Rule1, rule] at h
      exact odds_in h.1 98 (.inr rfl) h.2.1 h.2.2.1 h.2.2.2
    · rw [Rule1, Seq_nil] at h
      exact ⟨fun k k1 k2 => by omega, fun k k1 k2 => by omega⟩
    · rw [Rule1, Seq_byte, Seq_nil] at h
      obtain ⟨⟨h1, h2, h3⟩, h4⟩ := h
      refine ⟨fun k k1 k2 => ?_, fun k k1 k2 => ?_⟩
      · have e : k = i := by omega
        subst e; omega
      · congr 1; omega
  · have hx2 : x = 0 := by have : (gOdds.Names.length : Int) = 1 := rfl; omega
    subst hx2
    by_cases e : i = j
    · refine ⟨_, .tail _ (.tail _ (.head _)), rfl, fun M _ => ?_⟩
      rw [Rule1, Seq_nil]; exact e
    · have hi := hx.1 i (Nat.le_refl _) (by omega)
      by_cases e1 : i + 1 = j
      · refine ⟨_, .tail _ (.tail _ (.tail _ (.head _))), rfl, fun M _ => ?_⟩
        rw [Rule1, Seq_byte, Seq_nil]; exact ⟨⟨by omega, by omega, by omega⟩, e1⟩
      · have hm := hx.2 i (Nat.le_refl _) (by omega)
        rw [show i + j - 1 - i = j - 1 by omega] at hm
        have inner : NO w 0 (i + 1) (j - 1) := ⟨fun k k1 k2 => hx.1 k (by omega) (by omega), fun k k1 k2 => by
          have := hx.2 k (by omega) (by omega)
          rwa [show i + 1 + (j - 1) - 1 - k = i + j - 1 - k by omega]⟩
        rcases hi with hi | hi
        · refine ⟨_, .head _, rfl, fun M _ => ?_⟩
          rw [Rule1, rule, upd_off (fun z => by omega)]
          exact ⟨by omega, hi, by omega, inner⟩
        · refine ⟨_, .tail _ (.head _), rfl, fun M _ => ?_⟩
          rw [Rule1, rule, upd_off (fun z => by omega)]
          exact ⟨by omega, hi, by omega, inner⟩

/-! ## Bytes -/
def gBytes (a b : Int) : Grammar := (⟨(0 : Int), ([(⟨#[83]⟩ : ByteArray)] : List ByteArray), ([(⟨(0 : Int), ([(⟨false, ([] : (List Symbol))⟩ : Conjunct)] : List Conjunct)⟩ : Rule), (⟨(0 : Int), ([(⟨false, ([(⟨(0 : Int), (0 : Int), (0 : Int)⟩ : Symbol), (⟨(-1), a, b⟩ : Symbol)] : List Symbol)⟩ : Conjunct)] : List Conjunct)⟩ : Rule)] : List Rule)⟩ : Grammar)
theorem bytes_may {a b : Int} (h0 : 0 ≤ a) (hab : a ≤ b) (hb : b ≤ 255) : mayP (gBytes a b) := by
  have hn := odds_may.1
  refine ⟨hn, by simp [gBytes], by simp [gBytes], by simp [gBytes], by simp [gBytes], rfl, ?_, ?_⟩
  · simp [gBytes, chainP, ruleP, conjP, symP]; omega
  · simp [gBytes, total, sumR, sumC]
theorem bytes_lv (a b : Int) : LvS (gBytes a b).Names.length (gBytes a b).Rules fun _ => 0 := by
  intro r hr
  simp only [gBytes, List.mem_cons, List.not_mem_nil, or_false] at hr
  rcases hr with rfl | rfl <;> simp [gBytes]
def NB (a b : Int) (w : Nat → Int) : Sp := fun _ i j => ∀ k, i ≤ k → k < j → a ≤ w k ∧ w k ≤ b
theorem bytes_pm (a b : Int) (w : Nat → Int) (L : Nat) : PMs (gBytes a b).Names.length (gBytes a b).Rules (fun _ => 0) w L (NB a b w) := by
  have rule : ∀ (N : Sp) i j, SeqS N w [⟨0, 0, 0⟩, ⟨-1, a, b⟩] i j ↔ i < j ∧ N 0 i (j - 1) ∧ a ≤ w (j - 1) ∧ w (j - 1) ≤ b := fun N i j => by
    rw [Seq_name (by decide)]
    constructor
    · rintro ⟨k, h4, h5, h6, h7⟩
      rw [Seq_byte, Seq_nil] at h7
      obtain ⟨⟨h8, h9, h10⟩, h11⟩ := h7
      have e : k = j - 1 := by omega
      subst e
      exact ⟨by omega, h6, h9, h10⟩
    · rintro ⟨h1, h2, h3, h4⟩
      exact ⟨j - 1, by omega, by omega, h2, by rw [Seq_byte, Seq_nil]; exact ⟨⟨by omega, h3, h4⟩, by omega⟩⟩
  refine PMs.of (fun r hr i j hij hj h => ?_) fun x x0 x1 i j hij hj hx => ?_
  · simp only [gBytes, List.mem_cons, List.not_mem_nil, or_false] at hr
    rcases hr with rfl | rfl
    · rw [Rule1, Seq_nil] at h
      intro k k1 k2; omega
    · rw [Rule1, rule] at h
      intro k k1 k2
      by_cases e : k = j - 1
      · subst e; exact h.2.2
      · exact h.2.1 k k1 (by omega)
  · have hx2 : x = 0 := by have : ((gBytes a b).Names.length : Int) = 1 := rfl; omega
    subst hx2
    by_cases e : i = j
    · refine ⟨_, .head _, rfl, fun M _ => ?_⟩
      rw [Rule1, Seq_nil]; exact e
    · refine ⟨_, .tail _ (.head _), rfl, fun M _ => ?_⟩
      rw [Rule1, rule, upd_off (fun z => by omega)]
      exact ⟨by omega, fun k k1 k2 => hx k k1 (by omega), hx (j - 1) (by omega) (by omega)⟩

/-! ## Known grammars -/
structure Known (g : Grammar) (lv : Int → Int) (N : (Nat → Int) → Sp) : Prop where
  may : mayP g
  st : LvS g.Names.length g.Rules lv
  l0 : ∀ y : Int, 0 ≤ y → y < g.Names.length → 0 ≤ lv y
  pm : ∀ w L, PMs g.Names.length g.Rules lv w L (N w)
theorem plain_known : Known gPlain lvPl NP := ⟨plain_may, plain_lv, fun y _ _ => by unfold lvPl; split <;> omega, plain_pm⟩
theorem odds_known : Known gOdds (fun _ => 0) NO := ⟨odds_may, odds_lv, fun y _ _ => by omega, odds_pm⟩
theorem bytes_known {a b : Int} (h0 : 0 ≤ a) (hab : a ≤ b) (hb : b ≤ 255) : Known (gBytes a b) (fun _ => 0) (NB a b) := ⟨bytes_may h0 hab hb, bytes_lv a b, fun y _ _ => by omega, bytes_pm a b⟩

/-! ## Bytes of strings -/
def Byt (xs : List Int) : Prop := ∀ v ∈ xs, 0 ≤ v ∧ v < 256
theorem strL_app (a b : List Int) : strL a ++ strL b = strL (a ++ b) := by
  apply ByteArray.ext
  simp [strL]
theorem strL_size (a : List Int) : (strL a).size = a.length := by simp [strL, ByteArray.size]
theorem byt_back {xs : List Int} (h : Byt xs) : bytesL (strL xs) = xs := by
  unfold bytesL strL
  simp only [List.map_map]
  conv => rhs; rw [← List.map_id xs]
  apply List.map_congr_left
  intro v hv
  obtain ⟨h0, h1⟩ := h v hv
  simp only [Function.comp, id]
  have : (UInt8.ofNat v.toNat).toNat = v.toNat % 256 := by simp
  rw [this]
  omega
theorem bt_rd (s : ByteArray) (i : Int) : bt s i = rd (bytesL s) i := by
  unfold bt rd bytesL
  rw [List.getD_eq_getElem?_getD, List.getElem?_map, Array.getD_eq_getD_getElem?, ← Array.getElem?_toList]
  cases s.data.toList[i.toNat]? <;> rfl
theorem bt_lo (s : ByteArray) (i : Int) : 0 ≤ bt s i ∧ bt s i ≤ 255 := by
  unfold bt
  have := (s.data.getD i.toNat 0).toNat_lt
  omega
theorem bt_strL {xs : List Int} (h : Byt xs) (i : Int) : bt (strL xs) i = rd xs i := by rw [bt_rd, byt_back h]
/-- A letter, a or b, by a byte's lowest bit. -/
def lt (s : ByteArray) (i : Nat) : Int := 97 + bt s (i : Int) % 2
theorem lt_ab (s : ByteArray) (i : Nat) : lt s i = 97 ∨ lt s i = 98 := by unfold lt; omega
theorem lt_bit (s : ByteArray) (i : Nat) : iand .i64 (IntKind.wrap .i64 (bt s (i : Int))) 1 = lt s i - 97 := by
  have := bt_lo s (i : Int)
  rw [wr (by omega) (by omega), and1]; unfold lt; omega
theorem lt_eq (s : ByteArray) (i : Nat) : IntKind.wrap .i64 (97 + iand .i64 (IntKind.wrap .i64 (bt s (i : Int))) 1) = lt s i := by
  have := lt_ab s i
  rw [lt_bit, wr (by omega) (by omega)]; omega
def ws (s : ByteArray) (i : Nat) : List Int := (List.range i).map (lt s)
theorem ws_len (s : ByteArray) (i : Nat) : (ws s i).length = i := by simp [ws]
theorem ws_0 (s : ByteArray) : ws s 0 = [] := rfl
theorem ws_succ (s : ByteArray) (i : Nat) : ws s (i + 1) = ws s i ++ [lt s i] := by simp [ws, List.range_succ]
theorem ws_rd (s : ByteArray) {i k : Nat} (h : k < i) : rd (ws s i) (k : Int) = lt s k := by
  rw [rd_nat, List.getD_eq_getElem?_getD]; unfold ws
  rw [List.getElem?_map, List.getElem?_range h]; rfl
theorem ws_byt (s : ByteArray) (i : Nat) : Byt (ws s i) := fun v hv => by
  obtain ⟨k, _, rfl⟩ := List.mem_map.1 hv
  have := lt_ab s k; omega
def bs (s : ByteArray) (i : Nat) : List Int := (List.range i).map fun k : Nat => bt s (k : Int)
theorem bs_len (s : ByteArray) (i : Nat) : (bs s i).length = i := by simp [bs]
theorem bs_succ (s : ByteArray) (i : Nat) : bs s (i + 1) = bs s i ++ [bt s (i : Int)] := by simp [bs, List.range_succ]
theorem bs_rd (s : ByteArray) {i k : Nat} (h : k < i) : rd (bs s i) (k : Int) = bt s (k : Int) := by
  rw [rd_nat, List.getD_eq_getElem?_getD]; unfold bs
  rw [List.getElem?_map, List.getElem?_range h]; rfl

/-! ## Levels: names by numbers, each not the next one -/
def decN (i : Nat) : ByteArray := (templeref0_Decimal 100 (i : Int)).getD (⟨#[]⟩ : ByteArray)
def nameN (i : Nat) : ByteArray := (⟨#[110]⟩ : ByteArray) ++ decN i
theorem small (i : Nat) (h : i < 17) : i = 0 ∨ i = 1 ∨ i = 2 ∨ i = 3 ∨ i = 4 ∨ i = 5 ∨ i = 6 ∨ i = 7 ∨ i = 8 ∨ i = 9 ∨ i = 10 ∨ i = 11 ∨ i = 12 ∨ i = 13 ∨ i = 14 ∨ i = 15 ∨ i = 16 := by omega
theorem dec_spec (K : Nat) (i : Nat) (h : i < 17) : templeref0_Decimal (K + 100) (i : Int) = some (decN i) := by
  rcases small i h with rfl | rfl | rfl | rfl | rfl | rfl | rfl | rfl | rfl | rfl | rfl | rfl | rfl | rfl | rfl | rfl | rfl <;> kernel_rfl
theorem dec_size (i : Nat) (h : i < 17) : (decN i).size ≤ 2 := by
  have : ∀ i : Fin 17, (decN i.val).size ≤ 2 := by decide +kernel
  exact this ⟨i, h⟩
instance (c : Int) : Decidable (letterP c) := by unfold letterP; infer_instance
instance (c : Int) : Decidable (moreP c) := by unfold moreP; infer_instance
instance (s : ByteArray) : Decidable (nameP s) := by unfold nameP; infer_instance
theorem name_may (i : Nat) (h : i < 17) : nameP (nameN i) := by
  have : ∀ i : Fin 17, nameP (nameN i.val) := by decide +kernel
  exact this ⟨i, h⟩
def nameA : ByteArray := ⟨#[97]⟩
theorem names_apart : ((List.range 17).map nameN ++ [nameA]).Nodup := by decide +kernel
theorem names_may (k : Nat) (h : k ≤ 16) : namesP ((List.range k).map nameN ++ [nameA]) := by
  refine ⟨by simp, by simp; omega, fun s hs => ?_, ?_⟩
  · rcases List.mem_append.1 hs with hs | hs
    · obtain ⟨i, hi, rfl⟩ := List.mem_map.1 hs
      exact name_may i (by have := List.mem_range.1 hi; omega)
    · rw [List.mem_singleton] at hs; subst hs; decide +kernel
  · have : (List.range k).Sublist (List.range 17) := by
      have e : List.range k = (List.range 17).take k := by rw [List.take_range]; congr 1; omega
      rw [e]; exact List.take_sublist _ _
    exact names_apart.sublist ((this.map nameN).append (List.Sublist.refl _))
def lvR (i : Nat) : Rule := ⟨(i : Int), ([(⟨true, ([(⟨(i : Int) + 1, (0 : Int), (0 : Int)⟩ : Symbol)] : List Symbol)⟩ : Conjunct)] : List Conjunct)⟩
def gLev (k : Nat) : Grammar := (⟨(0 : Int), (List.range k).map nameN ++ ([(⟨#[97]⟩ : ByteArray)] : List ByteArray), (List.range k).map lvR ++ ([(⟨(k : Int), ([(⟨false, ([(⟨(-1), 97, 97⟩ : Symbol), (⟨(k : Int), (0 : Int), (0 : Int)⟩ : Symbol)] : List Symbol)⟩ : Conjunct)] : List Conjunct)⟩ : Rule), (⟨(k : Int), ([(⟨false, ([] : (List Symbol))⟩ : Conjunct)] : List Conjunct)⟩ : Rule)] : List Rule)⟩ : Grammar)
theorem gLev_rules {k : Nat} {r : Rule} (h : r ∈ (gLev k).Rules) : (∃ i, i < k ∧ r = lvR i) ∨ r = ⟨(k : Int), [⟨false, [⟨-1, 97, 97⟩, ⟨(k : Int), 0, 0⟩]⟩]⟩ ∨ r = ⟨(k : Int), [⟨false, []⟩]⟩ := by
  rcases List.mem_append.1 h with h | h
  · obtain ⟨i, hi, rfl⟩ := List.mem_map.1 h
    exact .inl ⟨i, List.mem_range.1 hi, rfl⟩
  · rcases List.mem_cons.1 h with rfl | h
    · exact .inr (.inl rfl)
    · rw [List.mem_singleton] at h; exact .inr (.inr h)
theorem gLev_in {k i : Nat} (h : i < k) : lvR i ∈ (gLev k).Rules := List.mem_append_left _ (List.mem_map.2 ⟨i, List.mem_range.2 h, rfl⟩)
theorem lv_total : ∀ is : List Nat, total (is.map lvR) = is.length
  | [] => rfl
  | i :: is => by
    rw [List.map_cons, total, lv_total is, List.length_cons]
    show 1 + is.length = _
    omega
theorem total_app (a b : List Rule) : total (a ++ b) = total a + total b := by
  induction a with
  | nil => simp [total]
  | cons r a ih => rw [List.cons_append, total, total, ih]; omega
theorem lv_chain (k : Nat) (rs : List Rule) (hc : chainP ((k : Int) + 1) ((k : Int) - 1) rs) : ∀ (m j : Nat), j + m = k → chainP ((k : Int) + 1) ((j : Int) - 1) ((List.range' j m).map lvR ++ rs)
  | 0, j, hj => by
    have : j = k := by omega
    subst this; exact hc
  | m + 1, j, hj => by
    rw [List.range'_succ, List.map_cons, List.cons_append, chainP]
    refine ⟨⟨by simp [lvR], by simp [lvR], fun c hc => ?_⟩, .inr (by simp only [lvR]; omega), ?_⟩
    · have hc' : c ∈ [(⟨true, [⟨(j : Int) + 1, 0, 0⟩]⟩ : Conjunct)] := hc
      rw [List.mem_singleton] at hc'; subst hc'
      refine ⟨by simp, fun s hs => ?_⟩
      rw [List.mem_singleton] at hs; subst hs
      exact .inr ⟨by simp only; omega, by simp only; omega, rfl, rfl⟩
    · have := lv_chain k rs hc m (j + 1) (by omega)
      rwa [show ((j + 1 : Nat) : Int) - 1 = (lvR j).Head by simp only [lvR]; omega] at this
theorem gLev_may {k : Nat} (h : k ≤ 16) (hk : 1 ≤ k) : mayP (gLev k) := by
  have hl : (gLev k).Names.length = k + 1 := by simp [gLev]
  refine ⟨names_may k h, Int.le_refl _, by rw [hl]; show (0 : Int) < _; omega, by simp [gLev], by simp [gLev]; omega, ?_, ?_, ?_⟩
  · obtain ⟨q, rfl⟩ : ∃ q, k = q + 1 := ⟨k - 1, by omega⟩
    simp only [gLev, List.range_succ_eq_map, List.map_cons, List.cons_append]
    rfl
  · rw [hl]
    have := lv_chain k [⟨(k : Int), [⟨false, [⟨-1, 97, 97⟩, ⟨(k : Int), 0, 0⟩]⟩]⟩, ⟨(k : Int), [⟨false, []⟩]⟩] ?_ k 0 (by omega)
    · rw [← List.range_eq_range'] at this
      exact this
    · simp [chainP, ruleP, conjP, symP]
      omega
  · show total ((List.range k).map lvR ++ _) ≤ 1024
    rw [total_app, lv_total, List.length_range]
    simp [total, sumR, sumC]
    omega
def lvLv (k : Nat) (y : Int) : Int := (k : Int) - y
theorem gLev_lv (k : Nat) : LvS (gLev k).Names.length (gLev k).Rules (lvLv k) := by
  have hl : (gLev k).Names.length = k + 1 := by simp [gLev]
  intro r hr
  rw [hl]
  rcases gLev_rules hr with ⟨i, hi, rfl⟩ | rfl | rfl <;> simp [lvR, lvLv] <;> omega
def NL (k : Nat) (w : Nat → Int) : Sp := fun x i j => if ((k : Int) - x) % 2 = 0 then allA w i j else ¬ allA w i j
theorem lev_pm (k : Nat) (w : Nat → Int) (L : Nat) : PMs (gLev k).Names.length (gLev k).Rules (lvLv k) w L (NL k w) := by
  have hl : (gLev k).Names.length = k + 1 := by simp [gLev]
  have nk : ∀ i j, NL k w (k : Int) i j ↔ allA w i j := fun i j => by unfold NL; rw [if_pos (by omega)]
  have ns : ∀ (x : Int) i j, NL k w x i j ↔ ¬ NL k w (x + 1) i j := fun x i j => by
    unfold NL
    by_cases c : ((k : Int) - x) % 2 = 0
    · rw [if_pos c, if_neg (by omega), Classical.not_not]
    · rw [if_neg c, if_pos (by omega)]
  refine PMs.of (fun r hr i j hij hj h => ?_) fun x x0 x1 i j hij hj hx => ?_
  · rcases gLev_rules hr with ⟨q, hq, rfl⟩ | rfl | rfl
    · unfold lvR at h
      rw [Rule1n, Seq_name1 (by omega) hij] at h
      exact (ns (q : Int) i j).2 h
    · rw [Rule1, Seq_byte] at h
      obtain ⟨⟨h1, h2, h3⟩, h4⟩ := h
      rw [Seq_name1 (by omega) (by omega), nk] at h4
      refine (nk i j).2 fun x x1 x2 => ?_
      by_cases e : x = i
      · subst e; omega
      · exact h4 x (by omega) x2
    · rw [Rule1, Seq_nil] at h
      exact (nk i j).2 fun x x1 x2 => by omega
  · by_cases c : x = (k : Int)
    · subst c
      have hA := (nk i j).1 hx
      by_cases e : i = j
      · refine ⟨_, List.mem_append_right _ (.tail _ (.head _)), rfl, fun M _ => ?_⟩
        rw [Rule1, Seq_nil]; exact e
      · refine ⟨_, List.mem_append_right _ (.head _), rfl, fun M _ => ?_⟩
        have hi := hA i (Nat.le_refl _) (by omega)
        rw [Rule1, Seq_byte, Seq_name1 (by omega) (by omega), upd_off (fun z => by omega), nk]
        exact ⟨⟨by omega, by omega, by omega⟩, fun x x1 x2 => hA x (by omega) x2⟩
    · rw [hl] at x1
      obtain ⟨q, rfl⟩ : ∃ q : Nat, x = (q : Int) := ⟨x.toNat, by omega⟩
      refine ⟨lvR q, gLev_in (by omega), rfl, fun M hM => ?_⟩
      unfold lvR
      rw [Rule1n, Seq_name1 (by omega) hij, upd_at, hM _ (by omega) (by rw [hl]; omega) (by unfold lvLv; omega)]
      exact (ns (q : Int) i j).1 hx
theorem lev_known {k : Nat} (h : k ≤ 16) (hk : 1 ≤ k) : Known (gLev k) (lvLv k) (NL k) := ⟨gLev_may h hk, gLev_lv k, fun y _ h1 => by
  have hl : (gLev k).Names.length = k + 1 := by simp [gLev]
  rw [hl] at h1; unfold lvLv; omega, lev_pm k⟩
theorem nl_start {k : Nat} {w : Nat → Int} {i : Nat} : NL k w 0 0 i ↔ if k % 2 = 0 then (∀ x : Nat, x < i → w x = 97) else ¬ ∀ x : Nat, x < i → w x = 97 := by
  unfold NL
  have q : allA w 0 i ↔ ∀ x : Nat, x < i → w x = 97 := ⟨fun h x hx => h x (Nat.zero_le _) hx, fun h x _ hx => h x hx⟩
  by_cases c : k % 2 = 0
  · rw [if_pos (by omega), if_pos c, q]
  · rw [if_neg (by omega), if_neg c, q]
def allL (s : ByteArray) (i : Nat) : Bool := (List.range i).all fun k => decide (lt s k = 97)
theorem allL_succ (s : ByteArray) (i : Nat) : allL s (i + 1) = (allL s i && decide (lt s i = 97)) := by simp [allL, List.range_succ]
end Go.Proofs.Ytpjhcllohagjoaa

/-! PLaw16 -/
namespace Go.Proofs.Ytpjhcllohagjoaa
open S
set_option linter.unusedVariables false
set_option linter.unusedSimpArgs false
set_option maxRecDepth 100000

/-! ## Engines -/
def Fed (g : Grammar) (w : List Int) (e : Chart_Engine) : Prop := ∃ xs, EngC g xs w e ∧ LvF g xs
theorem new_known (K : Nat) (hK : 200000 ≤ K) {g : Grammar} {lv : Int → Int} {N : (Nat → Int) → Sp} (h : Known g lv N) : ∃ e, chart_New K g = some (some e, 0) ∧ Fed g [] e := by
  rcases cNew_spec K hK g with ⟨s, h1, h2, _⟩ | ⟨xs, e, h1, h2, h3⟩
  · exact absurd (strOut_of h.may h.st h1) h2
  · exact ⟨e, h2, xs, h3, h1.lvf⟩
theorem new_bad (K : Nat) (hK : 200000 ≤ K) {g : Grammar} (h : ¬ mayP g) : chart_New K g = some (none, 1600) := by
  rcases cNew_spec K hK g with ⟨s, _, _, h3⟩ | ⟨xs, e, h1, _, _⟩
  · exact h3
  · exact absurd h1.lvf.may h
theorem feed_ok (K : Nat) (hK : 200000 ≤ K) {g : Grammar} {w : List Int} {e : Chart_Engine} (h : Fed g w e) {c : Int} (h0 : 0 ≤ c) (h1 : c ≤ 255) (hl : w.length < 32) : ∃ e', chart_Engine_Feed K e c = some (0, e') ∧ Fed g (w ++ [c]) e' := by
  obtain ⟨xs, he, hf⟩ := h
  rcases cFeed_spec K hK he c with ⟨h2, _⟩ | ⟨_, h2, _⟩ | ⟨_, _, e', h2, h3⟩
  · omega
  · omega
  · exact ⟨e', h2, xs, h3, hf⟩
theorem feed_full (K : Nat) (hK : 200000 ≤ K) {g : Grammar} {w : List Int} {e : Chart_Engine} (h : Fed g w e) {c : Int} (h0 : 0 ≤ c) (h1 : c ≤ 255) (hl : w.length = 32) : chart_Engine_Feed K e c = some (1601, e) := by
  obtain ⟨xs, he, hf⟩ := h
  rcases cFeed_spec K hK he c with ⟨h2, _⟩ | ⟨_, h2, h3⟩ | ⟨_, h2, _⟩
  · omega
  · exact h3
  · omega
theorem feed_bad (K : Nat) (hK : 200000 ≤ K) {g : Grammar} {w : List Int} {e : Chart_Engine} (h : Fed g w e) {c : Int} (h0 : c < 0 ∨ 255 < c) : chart_Engine_Feed K e c = some (1600, e) := by
  obtain ⟨xs, he, hf⟩ := h
  rcases cFeed_spec K hK he c with ⟨_, h2⟩ | ⟨_, h2, h3⟩ | ⟨_, h2, _⟩
  · exact h2
  · omega
  · omega
theorem in_known (K : Nat) {g : Grammar} {lv : Int → Int} {N : (Nat → Int) → Sp} (h : Known g lv N) {w : List Int} {e : Chart_Engine} (he : Fed g w e) : ∃ b, chart_Engine_In K e = some b ∧ (b = true ↔ N (fun k => rd w (k : Int)) g.Start 0 w.length) := by
  obtain ⟨xs, he, hf⟩ := he
  obtain ⟨b, h1, M, h2, h3⟩ := cIn_spec K he
  refine ⟨b, h1, h3.trans ?_⟩
  exact PMs.two hf.lv h.st hf.l0 h.l0 h2 (h.pm _ _) 0 w.length (Nat.zero_le _) (Nat.le_refl _) g.Start h.may.2.1 h.may.2.2.1
theorem len_fed (K : Nat) {g : Grammar} {w : List Int} {e : Chart_Engine} (h : Fed g w e) : chart_Engine_Len K e = some (w.length : Int) := by
  obtain ⟨xs, he, _⟩ := h
  exact cLen_spec K he
theorem num_eq (K : Nat) (e : Int) : templelaw0_Num K e = some e := rfl

/-! ## awake -/
theorem np_start {w : List Int} : NP (fun k => rd w (k : Int)) gPlain.Start 0 w.length ↔ ¬ (0 < w.length ∧ ∀ k : Nat, k < w.length → rd w (k : Int) = 97) := by
  show NP (fun k => rd w (k : Int)) 0 0 w.length ↔ _
  unfold NP allA
  rw [if_pos rfl]
  constructor
  · intro h hh; exact h ⟨hh.1, fun k _ hk => hh.2 k hk⟩
  · intro h hh; exact h ⟨hh.1, fun k hk => hh.2 k (Nat.zero_le _) hk⟩
theorem awake_true (K : Nat) (hK : 200000 ≤ K) : templelaw16_awake K = some true := by
  obtain ⟨e0, n0, f0⟩ := new_known K hK plain_known
  have n1 : chart_New K (⟨(0 : Int), ([] : (List ByteArray)), ([] : (List Rule))⟩ : Grammar) = some (none, 1600) := new_bad K hK fun h => by have := h.1.1; simp at this
  obtain ⟨e1, n2, f1⟩ := feed_ok K hK f0 (c := 97) (by decide) (by decide) (by decide)
  obtain ⟨e2, n3, f2⟩ := feed_ok K hK f1 (c := 98) (by decide) (by decide) (by decide)
  have n4 := feed_bad K hK f2 (c := 256) (.inr (by decide))
  obtain ⟨b0, i0, j0⟩ := in_known K plain_known f0
  obtain ⟨b1, i1, j1⟩ := in_known K plain_known f1
  obtain ⟨b2, i2, j2⟩ := in_known K plain_known f2
  have l2 := len_fed K f2
  rw [np_start] at j0 j1 j2
  have t0 : b0 = true := j0.2 (by simp)
  have t1 : b1 = false := by
    have hk : ∀ k : Nat, k < ([] ++ [97] : List Int).length → rd ([] ++ [97] : List Int) (k : Int) = 97 := fun k h => by
      have e : k = 0 := by simp at h; omega
      subst e; rfl
    rw [← Bool.not_eq_true]
    exact fun h => j1.1 h ⟨by decide, hk⟩
  have t2 : b2 = true := j2.2 fun h => by
    have := h.2 1 (by decide)
    exact absurd this (by decide)
  have hp : templelaw16_Plain K = some gPlain := rfl
  subst t0 t1 t2
  unfold templelaw16_awake
  simp only [hp, Option.bind_some, n0, n1, num_eq, i0, n2, i1, n3, n4, i2, l2]
  rfl

/-! ## Full -/
theorem full_l1 (K : Nat) (hK : 200000 ≤ K) (c cc : Int) (hc : iand .i64 c 255 = cc) (c0 : 0 ≤ cc) (c1 : cc ≤ 255) : ∀ (k i m : Nat) (e : Chart_Engine), i + k = 32 → k < m → Fed gPlain (List.replicate i cc) e →
    ∃ e', templelaw16_ChartFull.l1 K c m (e, (i : Int)) = some (.inl (e', 32)) ∧ Fed gPlain (List.replicate 32 cc) e'
  | 0, i, m, e, hi, hm, h => by
    obtain ⟨m, rfl⟩ : ∃ q, m = q + 1 := ⟨m - 1, by omega⟩
    have : i = 32 := by omega
    subst this
    simp only [templelaw16_ChartFull.l1]
    exact ⟨e, rfl, h⟩
  | k + 1, i, m, e, hi, hm, h => by
    obtain ⟨m, rfl⟩ : ∃ q, m = q + 1 := ⟨m - 1, by omega⟩
    obtain ⟨e', h1, h2⟩ := feed_ok K hK h c0 c1 (by simp; omega)
    rw [← List.replicate_succ'] at h2
    obtain ⟨e2, h3, h4⟩ := full_l1 K hK c cc hc c0 c1 k (i + 1) m e' (by omega) (by omega) h2
    refine ⟨e2, ?_, h4⟩
    simp only [templelaw16_ChartFull.l1]
    rw [if_pos (by omega), hc, h1, Option.bind_some, num_eq, Option.bind_some, if_neg (by simp), wr (by omega) (by omega)]
    exact h3
theorem Full_true (K : Nat) (hK : 200000 ≤ K) (c more : Int) : templelaw16_ChartFull K c more = some true := by
  obtain ⟨e0, n0, f0⟩ := new_known K hK plain_known
  obtain ⟨cc, hc⟩ : ∃ cc, iand .i64 c 255 = cc := ⟨_, rfl⟩
  obtain ⟨mm, hm⟩ : ∃ mm, iand .i64 more 255 = mm := ⟨_, rfl⟩
  have hc' := hc
  have hm' := hm
  rw [and255] at hc' hm'
  obtain ⟨e1, n1, f1⟩ := full_l1 K hK c cc hc (by omega) (by omega) 32 0 K e0 rfl (by omega) f0
  have n2 := feed_full K hK f1 (c := mm) (by omega) (by omega) (by simp)
  have n3 := feed_bad K hK f1 (c := -1 - mm) (.inl (by omega))
  have l1 := len_fed K f1
  obtain ⟨b, i0, j0⟩ := in_known K plain_known f1
  rw [np_start] at j0
  have hb : b = decide (cc ≠ 97) := by
    by_cases e : cc = 97
    · have : ¬ b = true := fun h => j0.1 h ⟨by simp, fun k hk => by rw [rd_rep _ (by simpa using hk)]; exact e⟩
      simp [e]; simpa using this
    · have : b = true := j0.2 fun h => e (by have := h.2 0 (by simp); rwa [rd_rep _ (by decide)] at this)
      simp [e, this]
  have hp : templelaw16_Plain K = some gPlain := rfl
  unfold templelaw16_ChartFull
  rw [awake_true K hK, Option.bind_some, if_neg (by simp), hp, Option.bind_some, n0, Option.bind_some]
  simp only [hc, hm]
  erw [n1]
  simp only [brk, i0, Option.bind_some, n2, num_eq]
  rw [wr (by omega) (by omega), n3, Option.bind_some]
  simp only [num_eq, Option.bind_some, l1, i0, List.length_replicate]
  rw [hb]
  simp
theorem ChartFull_holds (c more : Int) : ∃ K, templelaw16_ChartFull K c more = some true := ⟨200000, Full_true 200000 (Nat.le_refl _) c more⟩

/-! ## Twins -/
def rowT (s : ByteArray) (i : Nat) : Bool := decide (0 < (s.size : Int)) && (List.range i).all fun k => decide (lt s k = 97)
theorem rowT_succ (s : ByteArray) (i : Nat) : rowT s (i + 1) = (rowT s i && decide (lt s i = 97)) := by simp [rowT, List.range_succ, Bool.and_assoc]
theorem rowT_if (s : ByteArray) (i : Nat) : (if rowT s i = true then decide (iand .i64 (IntKind.wrap .i64 (bt s (i : Int))) 1 = 0) else false) = rowT s (i + 1) := by
  have e : decide (lt s i - 97 = 0) = decide (lt s i = 97) := by
    have := lt_ab s i
    rcases this with h | h <;> rw [h] <;> rfl
  rw [rowT_succ, lt_bit, e]
  cases rowT s i <;> simp
theorem rowT_in {s : ByteArray} {e : Chart_Engine} (K : Nat) (h : Fed gPlain (ws s s.size) e) : chart_Engine_In K e = some (!rowT s s.size) := by
  obtain ⟨b, i0, j0⟩ := in_known K plain_known h
  rw [np_start, ws_len] at j0
  have : b = !rowT s s.size := by
    have q : rowT s s.size = true ↔ (0 < s.size ∧ ∀ k : Nat, k < s.size → rd (ws s s.size) (k : Int) = 97) := by
      unfold rowT
      rw [Bool.and_eq_true, decide_eq_true_eq, List.all_eq_true]
      refine and_congr (by omega) ⟨fun h k hk => ?_, fun h k hk => ?_⟩
      · rw [ws_rd s hk]; exact of_decide_eq_true (h k (List.mem_range.2 hk))
      · have := h k (List.mem_range.1 hk)
        rw [ws_rd s (List.mem_range.1 hk)] at this
        exact decide_eq_true this
    rw [← q] at j0
    cases b <;> cases hh : rowT s s.size
    · exact absurd (j0.2 (by rw [hh]; decide)) (by decide)
    · rfl
    · rfl
    · exact absurd hh (by simpa using j0.1 rfl)
  rw [i0, this]
theorem twins_l3 (K : Nat) (hK : 200000 ≤ K) (a b : ByteArray) : ∀ (k i m : Nat) (x y : Chart_Engine), i + k = 14 → k < m → Fed gPlain (ws a (min i a.size)) x → Fed gPlain (ws b (min i b.size)) y →
    ∃ x' y', templelaw16_ChartTwins.l3 K a b m (y, x, rowT a (min i a.size), rowT b (min i b.size), (i : Int)) = some (y', x', rowT a (min 14 a.size), rowT b (min 14 b.size), 14) ∧ Fed gPlain (ws a (min 14 a.size)) x' ∧ Fed gPlain (ws b (min 14 b.size)) y'
  | 0, i, m, x, y, hi, hm, h1, h2 => by
    obtain ⟨m, rfl⟩ : ∃ q, m = q + 1 := ⟨m - 1, by omega⟩
    have : i = 14 := by omega
    subst this
    simp only [templelaw16_ChartTwins.l3]
    exact ⟨x, y, rfl, h1, h2⟩
  | k + 1, i, m, x, y, hi, hm, h1, h2 => by
    obtain ⟨m, rfl⟩ : ∃ q, m = q + 1 := ⟨m - 1, by omega⟩
    have one : ∀ (s : ByteArray) (z : Chart_Engine), Fed gPlain (ws s (min i s.size)) z → ¬ i < s.size ∧ min i s.size = min (i + 1) s.size ∨ i < s.size ∧ min i s.size = i ∧ min (i + 1) s.size = i + 1 ∧ ∃ z', chart_Engine_Feed K z (lt s i) = some (0, z') ∧ Fed gPlain (ws s (i + 1)) z' := fun s z hz => by
      by_cases c : i < s.size
      · refine .inr ⟨c, by omega, by omega, ?_⟩
        rw [show min i s.size = i by omega] at hz
        have := lt_ab s i
        have := feed_ok K hK hz (c := lt s i) (by omega) (by omega) (by rw [ws_len]; omega)
        rwa [← ws_succ] at this
      · exact .inl ⟨c, by omega⟩
    have hA : ∃ x', (if (i : Int) < (a.size : Int) then if 0 ≤ (i : Int) then (chart_Engine_Feed K x (IntKind.wrap .i64 (97 + (iand .i64 (IntKind.wrap .i64 (bt a (i : Int))) 1)))).bind fun r_145 => if rowT a (min i a.size) = true then some (r_145.2, decide ((iand .i64 (IntKind.wrap .i64 (bt a (i : Int))) 1) = 0)) else some (r_145.2, false) else none else some (x, rowT a (min i a.size))) = some (x', rowT a (min (i + 1) a.size)) ∧ Fed gPlain (ws a (min (i + 1) a.size)) x' := by
      rcases one a x h1 with ⟨c, e⟩ | ⟨c, e1, e2, x', f1, f2⟩
      · rw [if_neg (by omega), ← e]; exact ⟨x, rfl, h1⟩
      · rw [if_pos (by omega), if_pos (by omega), lt_eq, f1, Option.bind_some, e1, e2, ← rowT_if]
        refine ⟨x', ?_, f2⟩
        split <;> rfl
    obtain ⟨x', ea, fa⟩ := hA
    rcases one b y h2 with ⟨c, e⟩ | ⟨c, e1, e2, y', f1, f2⟩
    · obtain ⟨x2, y2, g1, g2, g3⟩ := twins_l3 K hK a b k (i + 1) m x' y (by omega) (by omega) fa (by rw [← e]; exact h2)
      refine ⟨x2, y2, ?_, g2, g3⟩
      simp only [templelaw16_ChartTwins.l3]
      rw [if_pos (by omega)]
      erw [ea]
      rw [Option.bind_some]
      simp only
      rw [if_neg (by omega), wr (by omega) (by omega), e]
      exact g1
    · obtain ⟨x2, y2, g1, g2, g3⟩ := twins_l3 K hK a b k (i + 1) m x' y' (by omega) (by omega) fa (by rw [e2]; exact f2)
      refine ⟨x2, y2, ?_, g2, g3⟩
      rw [e2, ← rowT_if] at g1
      simp only [templelaw16_ChartTwins.l3]
      rw [if_pos (by omega)]
      erw [ea]
      rw [Option.bind_some]
      simp only
      rw [if_pos (by omega), if_pos (by omega), lt_eq, f1, Option.bind_some, e1, wr (a := (i : Int) + 1) (by omega) (by omega)]
      split
      · rename_i hh
        rw [if_pos hh] at g1
        exact g1
      · rename_i hh
        rw [if_neg hh] at g1
        exact g1
theorem Twins_true (K : Nat) (hK : 200000 ≤ K) (a b : ByteArray) : templelaw16_ChartTwins K a b = some true := by
  obtain ⟨e0, n0, f0⟩ := new_known K hK plain_known
  obtain ⟨x, y, h1, h2, h3⟩ := twins_l3 K hK a b 14 0 K e0 e0 rfl (by omega) (by rw [Nat.zero_min]; exact f0) (by rw [Nat.zero_min]; exact f0)
  have r0 : ∀ s : ByteArray, rowT s (min 0 s.size) = decide (0 < (s.size : Int)) := fun s => by rw [Nat.zero_min]; simp [rowT]
  rw [r0, r0] at h1
  have hp : templelaw16_Plain K = some gPlain := rfl
  unfold templelaw16_ChartTwins
  rw [awake_true K hK, Option.bind_some, if_neg (by simp), hp, Option.bind_some, n0, Option.bind_some]
  simp only [Option.bind_some, n0, num_eq]
  rw [if_neg (by simp), if_neg (by simp)]
  erw [h1]
  rw [Option.bind_some]
  simp only
  by_cases ca : (14 : Int) < a.size
  · rw [if_pos ca]
  · rw [if_neg ca]
    by_cases cb : (14 : Int) < b.size
    · rw [if_pos cb]
    · rw [if_neg cb]
      have ea : min 14 a.size = a.size := by omega
      have eb : min 14 b.size = b.size := by omega
      rw [ea] at h2 ⊢
      rw [eb] at h3 ⊢
      rw [rowT_in K h2, Option.bind_some, if_pos rfl, rowT_in K h3, Option.bind_some, if_pos rfl, len_fed K h2, Option.bind_some, if_pos (by rw [ws_len]), len_fed K h3, Option.bind_some, ws_len, decide_eq_true rfl]
theorem ChartTwins_holds (a b : ByteArray) : ∃ K, templelaw16_ChartTwins K a b = some true := ⟨200000, Twins_true 200000 (Nat.le_refl _) a b⟩

/-! ## Bytes -/
def inB (lo hi : Int) (s : ByteArray) (i : Nat) : Bool := (List.range i).all fun k : Nat => decide (lo ≤ bt s (k : Int) ∧ bt s (k : Int) ≤ hi)
theorem inB_succ (lo hi : Int) (s : ByteArray) (i : Nat) : inB lo hi s (i + 1) = (inB lo hi s i && decide (lo ≤ bt s (i : Int) ∧ bt s (i : Int) ≤ hi)) := by simp [inB, List.range_succ]
theorem inB_in {lo hi : Int} (h0 : 0 ≤ lo) (h1 : lo ≤ hi) (h2 : hi ≤ 255) {s : ByteArray} {i : Nat} {e : Chart_Engine} (K : Nat) (h : Fed (gBytes lo hi) (bs s i) e) : chart_Engine_In K e = some (inB lo hi s i) := by
  obtain ⟨b, i0, j0⟩ := in_known K (bytes_known h0 h1 h2) h
  rw [bs_len] at j0
  have q : inB lo hi s i = true ↔ NB lo hi (fun k => rd (bs s i) (k : Int)) (gBytes lo hi).Start 0 i := by
    unfold inB NB
    rw [List.all_eq_true]
    refine ⟨fun h k _ hk => ?_, fun h k hk => ?_⟩
    · show lo ≤ rd (bs s i) (k : Int) ∧ rd (bs s i) (k : Int) ≤ hi
      rw [bs_rd s hk]; exact of_decide_eq_true (h k (List.mem_range.2 hk))
    · have := h k (Nat.zero_le _) (List.mem_range.1 hk)
      have this : lo ≤ rd (bs s i) (k : Int) ∧ rd (bs s i) (k : Int) ≤ hi := this
      rw [bs_rd s (List.mem_range.1 hk)] at this
      exact decide_eq_true this
  rw [← q] at j0
  rw [i0]
  congr 1
  cases b <;> cases hh : inB lo hi s i <;> simp_all
theorem bytes_l0 (K : Nat) (hK : 200000 ≤ K) (lo hi lo' hi' : Int) (el : iand .i64 lo 255 = lo') (eh : iand .i64 hi 255 = hi') (h0 : 0 ≤ lo') (h1 : lo' ≤ hi') (h2 : hi' ≤ 255) (s : ByteArray) : ∀ (k i m : Nat) (x : Chart_Engine), i + k = 20 → k < m → Fed (gBytes lo' hi') (bs s i) x →
    ∃ r, templelaw16_ChartBytes.l0 K lo hi s m (x, inB lo' hi' s i, (i : Int)) = some (.inl r)
  | 0, i, m, x, hk, hm, h => by
    obtain ⟨m, rfl⟩ : ∃ q, m = q + 1 := ⟨m - 1, by omega⟩
    have : i = 20 := by omega
    subst this
    simp only [templelaw16_ChartBytes.l0]
    split
    · exact ⟨_, rfl⟩
    · exact ⟨_, rfl⟩
  | k + 1, i, m, x, hk, hm, h => by
    obtain ⟨m, rfl⟩ : ∃ q, m = q + 1 := ⟨m - 1, by omega⟩
    have hb := bt_lo s (i : Int)
    simp only [templelaw16_ChartBytes.l0]
    by_cases c : (i : Int) < (s.size : Int)
    · obtain ⟨x', f1, f2⟩ := feed_ok K hK h (c := bt s (i : Int)) (by omega) (by omega) (by rw [bs_len]; omega)
      rw [← bs_succ] at f2
      have ej : (if inB lo' hi' s i = true then if lo' ≤ bt s (i : Int) then some (decide (bt s (i : Int) ≤ hi')) else some false else some false) = some (inB lo' hi' s (i + 1)) := by
        rw [inB_succ]
        cases inB lo' hi' s i
        · rfl
        · by_cases c1 : lo' ≤ bt s (i : Int) <;> simp [c1]
      rw [if_pos c, if_pos (by omega), if_pos (by omega), wr (a := bt s (i : Int)) (by omega) (by omega), f1, Option.bind_some, el, eh, ej, Option.bind_some, num_eq, Option.bind_some, if_neg (by simp), inB_in h0 h1 h2 K f2, Option.bind_some, if_neg (by simp), wr (by omega) (by omega)]
      exact bytes_l0 K hK lo hi lo' hi' el eh h0 h1 h2 s k (i + 1) m x' (by omega) (by omega) f2
    · rw [if_neg c]; exact ⟨_, rfl⟩
theorem Bytes_true (K : Nat) (hK : 200000 ≤ K) (lo hi : Int) (s : ByteArray) : templelaw16_ChartBytes K lo hi s = some true := by
  unfold templelaw16_ChartBytes
  rw [awake_true K hK, Option.bind_some, if_neg (by simp)]
  obtain ⟨lo', el⟩ : ∃ x, iand .i64 lo 255 = x := ⟨_, rfl⟩
  obtain ⟨hi', eh⟩ : ∃ x, iand .i64 hi 255 = x := ⟨_, rfl⟩
  have el' := el
  have eh' := eh
  rw [and255] at el' eh'
  rw [el, eh]
  by_cases c : hi' < lo'
  · rw [if_pos c]
  · rw [if_neg c]
    obtain ⟨e0, n0, f0⟩ := new_known K hK (bytes_known (a := lo') (b := hi') (by omega) (by omega) (by omega))
    obtain ⟨r, hr⟩ := bytes_l0 K hK lo hi lo' hi' el eh (by omega) (by omega) (by omega) s 20 0 K e0 rfl (by omega) f0
    unfold gBytes at n0
    rw [n0, Option.bind_some]
    simp only [num_eq, Option.bind_some]
    rw [if_neg (by simp)]
    erw [hr]
    rfl
theorem ChartBytes_holds (lo hi : Int) (s : ByteArray) : ∃ K, templelaw16_ChartBytes K lo hi s = some true := ⟨200000, Bytes_true 200000 (Nat.le_refl _) lo hi s⟩

/-! ## Odds -/
def pal (xs : List Int) (j : Nat) : Bool := (List.range j).all fun k : Nat => decide (rd xs (k : Int) = rd xs ((xs.length - 1 - k : Nat) : Int))
theorem pal_succ (xs : List Int) (j : Nat) : pal xs (j + 1) = (pal xs j && decide (rd xs (j : Int) = rd xs ((xs.length - 1 - j : Nat) : Int))) := by simp [pal, List.range_succ]
theorem odds_l1 (K : Nat) (s w : ByteArray) (i : Int) (xs : List Int) (hx : Byt xs) (hl : xs.length ≤ 32) (hw : w ++ (strL ([IntKind.wrap .u8 (IntKind.wrap .i64 (97 + (iand .i64 (IntKind.wrap .i64 (bt s i)) 1)))] : List Int)) = strL xs) : ∀ (k j m : Nat), j + k = xs.length → k < m →
    templelaw16_ChartOdds.l1 K s w i m (pal xs j, (j : Int)) = some (pal xs xs.length, (xs.length : Int))
  | 0, j, m, hj, hm => by
    obtain ⟨m, rfl⟩ : ∃ q, m = q + 1 := ⟨m - 1, by omega⟩
    have : j = xs.length := by omega
    subst this
    simp only [templelaw16_ChartOdds.l1]
    rw [hw, strL_size, if_neg (by omega)]
  | k + 1, j, m, hj, hm => by
    obtain ⟨m, rfl⟩ : ∃ q, m = q + 1 := ⟨m - 1, by omega⟩
    have ih := odds_l1 K s w i xs hx hl hw k (j + 1) m (by omega) (by omega)
    have e1 : IntKind.wrap .i64 (IntKind.wrap .i64 ((xs.length : Int) - 1) - (j : Int)) = ((xs.length - 1 - j : Nat) : Int) := by
      rw [wr (a := (xs.length : Int) - 1) (by omega) (by omega), wr (by omega) (by omega)]; omega
    simp only [templelaw16_ChartOdds.l1]
    rw [hw, strL_size, if_pos (by omega), e1, bt_strL hx, bt_strL hx, wr (a := (j : Int) + 1) (by omega) (by omega)]
    rw [pal_succ] at ih
    cases hp : pal xs j with
    | true =>
      rw [hp, Bool.true_and] at ih
      rw [if_pos rfl, if_pos (show (0 : Int) ≤ (j : Int) by omega), if_pos (show (0 : Int) ≤ ((xs.length - 1 - j : Nat) : Int) by omega), if_pos (by omega)]; exact ih
    | false =>
      rw [hp, Bool.false_and] at ih
      rw [if_neg (by simp)]; exact ih
theorem pal_in {s : ByteArray} {i : Nat} {e : Chart_Engine} (K : Nat) (h : Fed gOdds (ws s i) e) : chart_Engine_In K e = some (pal (ws s i) (ws s i).length) := by
  obtain ⟨b, i0, j0⟩ := in_known K odds_known h
  have q : pal (ws s i) (ws s i).length = true ↔ NO (fun k => rd (ws s i) (k : Int)) gOdds.Start 0 (ws s i).length := by
    rw [ws_len]
    unfold pal NO
    rw [List.all_eq_true, ws_len]
    refine ⟨fun h => ⟨fun k _ hk => ?_, fun k _ hk => ?_⟩, fun h k hk => ?_⟩
    · show rd (ws s i) (k : Int) = 97 ∨ rd (ws s i) (k : Int) = 98
      rw [ws_rd s hk]; exact lt_ab s k
    · have := of_decide_eq_true (h k (List.mem_range.2 hk))
      show rd (ws s i) (k : Int) = rd (ws s i) ((0 + i - 1 - k : Nat) : Int)
      rwa [Nat.zero_add]
    · have this : rd (ws s i) (k : Int) = rd (ws s i) ((0 + i - 1 - k : Nat) : Int) := h.2 k (Nat.zero_le _) (List.mem_range.1 hk)
      rw [Nat.zero_add] at this
      exact decide_eq_true this
  rw [← q] at j0
  rw [i0]
  congr 1
  cases b <;> cases hh : pal (ws s i) (ws s i).length <;> simp_all
theorem odds_l0 (K : Nat) (hK : 200000 ≤ K) (s : ByteArray) : ∀ (k i m : Nat) (x : Chart_Engine), i + k = 14 → k < m → Fed gOdds (ws s i) x →
    ∃ x' j, templelaw16_ChartOdds.l0 K s m (x, strL (ws s i), (i : Int)) = some (.inl (x', strL (ws s j), (j : Int))) ∧ Fed gOdds (ws s j) x'
  | 0, i, m, x, hi, hm, h => by
    obtain ⟨m, rfl⟩ : ∃ q, m = q + 1 := ⟨m - 1, by omega⟩
    have : i = 14 := by omega
    subst this
    simp only [templelaw16_ChartOdds.l0]
    split
    · exact ⟨x, 14, rfl, h⟩
    · exact ⟨x, 14, rfl, h⟩
  | k + 1, i, m, x, hi, hm, h => by
    obtain ⟨m, rfl⟩ : ∃ q, m = q + 1 := ⟨m - 1, by omega⟩
    have hab := lt_ab s i
    simp only [templelaw16_ChartOdds.l0]
    by_cases c : (i : Int) < (s.size : Int)
    · obtain ⟨x', f1, f2⟩ := feed_ok K hK h (c := lt s i) (by omega) (by omega) (by rw [ws_len]; omega)
      rw [← ws_succ] at f2
      have hw : strL (ws s i) ++ (strL ([IntKind.wrap .u8 (IntKind.wrap .i64 (97 + (iand .i64 (IntKind.wrap .i64 (bt s (i : Int))) 1)))] : List Int)) = strL (ws s (i + 1)) := by
        rw [lt_eq, wb (by omega) (by omega), strL_app, ws_succ]
      have e1 := odds_l1 K s (strL (ws s i)) (i : Int) (ws s (i + 1)) (ws_byt _ _) (by rw [ws_len]; omega) hw (i + 1) 0 K (by rw [ws_len]; omega) (by omega)
      have e1 : templelaw16_ChartOdds.l1 K s (strL (ws s i)) (i : Int) K (true, 0) = some (pal (ws s (i + 1)) (ws s (i + 1)).length, ((ws s (i + 1)).length : Int)) := e1
      obtain ⟨x2, j, g1, g2⟩ := odds_l0 K hK s k (i + 1) m x' (by omega) (by omega) f2
      refine ⟨x2, j, ?_, g2⟩
      rw [if_pos c, if_pos (by omega), if_pos (by omega), hw, lt_eq, f1, Option.bind_some, strL_size, strL_size, ws_len, if_pos (by simp; omega), e1, Option.bind_some]
      simp only [num_eq, Option.bind_some]
      rw [if_neg (by simp), pal_in K f2, Option.bind_some, if_neg (by simp), wr (by omega) (by omega)]
      exact g1
    · rw [if_neg c]; exact ⟨x, i, rfl, h⟩
theorem Odds_true (K : Nat) (hK : 200000 ≤ K) (s : ByteArray) : templelaw16_ChartOdds K s = some true := by
  unfold templelaw16_ChartOdds
  rw [awake_true K hK, Option.bind_some, if_neg (by simp)]
  obtain ⟨e0, n0, f0⟩ := new_known K hK odds_known
  obtain ⟨x, j, h1, h2⟩ := odds_l0 K hK s 14 0 K e0 rfl (by omega) f0
  have h1 : templelaw16_ChartOdds.l0 K s K (e0, (⟨#[]⟩ : ByteArray), 0) = some (.inl (x, strL (ws s j), (j : Int))) := h1
  unfold gOdds at n0
  rw [n0, Option.bind_some]
  simp only [num_eq, Option.bind_some]
  rw [if_neg (by simp), h1]
  simp only [brk, Option.bind_some]
  show (chart_Engine_Len K x).bind _ = _
  rw [len_fed K h2, Option.bind_some, strL_size, decide_eq_true rfl]
theorem ChartOdds_holds (s : ByteArray) : ∃ K, templelaw16_ChartOdds K s = some true := ⟨200000, Odds_true 200000 (Nat.le_refl _) s⟩

/-! ## Levels -/
theorem lev_l0 (K : Nat) (many : Int) (k : Nat) (hk : IntKind.wrap .i64 (1 + iand .i64 many 15) = (k : Int)) (h16 : k ≤ 16) : ∀ (d i m : Nat), i + d = k → d < m →
    templelaw16_ChartLevels.l0 (K + 100) many m ((List.range i).map lvR, (List.range i).map nameN, (i : Int)) = some ((List.range k).map lvR, (List.range k).map nameN, (k : Int))
  | 0, i, m, hi, hm => by
    obtain ⟨m, rfl⟩ : ∃ q, m = q + 1 := ⟨m - 1, by omega⟩
    have : i = k := by omega
    subst this
    simp only [templelaw16_ChartLevels.l0]
    rw [hk, if_neg (by omega)]
  | d + 1, i, m, hi, hm => by
    obtain ⟨m, rfl⟩ : ∃ q, m = q + 1 := ⟨m - 1, by omega⟩
    have ih := lev_l0 K many k hk h16 d (i + 1) m (by omega) (by omega)
    have hd := dec_size i (by omega)
    have s1 : ((⟨#[110]⟩ : ByteArray).size : Int) = 1 := rfl
    have e1 : (⟨#[110]⟩ : ByteArray) ++ decN i = nameN i := rfl
    have e2 : ((i + 1 : Nat) : Int) = (i : Int) + 1 := by omega
    rw [e2, List.range_succ, List.map_append, List.map_append] at ih
    simp only [templelaw16_ChartLevels.l0]
    rw [hk, if_pos (by omega), dec_spec K i (by omega), Option.bind_some, if_pos (by omega), e1, if_pos (by simp; omega), wr (a := (i : Int) + 1) (by omega) (by omega), if_pos (by simp; omega)]
    exact ih
theorem row_in {k : Nat} (h : k ≤ 16) (hk : 1 ≤ k) {s : ByteArray} {i : Nat} {e : Chart_Engine} (K : Nat) (he : Fed (gLev k) (ws s i) e) : chart_Engine_In K e = some (decide (allL s i = decide ((k : Int) % 2 = 0))) := by
  obtain ⟨b, i0, j0⟩ := in_known K (lev_known h hk) he
  rw [ws_len] at j0
  have q : (gLev k).Start = 0 := rfl
  rw [q, nl_start] at j0
  rw [i0]
  congr 1
  have q2 : allL s i = true ↔ ∀ x : Nat, x < i → rd (ws s i) (x : Int) = 97 := by
    unfold allL
    rw [List.all_eq_true]
    exact ⟨fun h x hx => by rw [ws_rd s hx]; exact of_decide_eq_true (h x (List.mem_range.2 hx)), fun h x hx => decide_eq_true (by rw [← ws_rd s (List.mem_range.1 hx)]; exact h x (List.mem_range.1 hx))⟩
  have q3 : decide ((k : Int) % 2 = 0) = decide (k % 2 = 0) := decide_eq_decide.2 (by omega)
  rw [q3]
  rw [Bool.eq_iff_iff, decide_eq_true_eq, j0]
  by_cases c : k % 2 = 0
  · rw [if_pos c, decide_eq_true c, ← q2]
  · rw [if_neg c, decide_eq_false c, ← q2, Bool.not_eq_true]
theorem lev_l1 (K : Nat) (hK : 200000 ≤ K) (many : Int) (k : Nat) (hk : IntKind.wrap .i64 (1 + iand .i64 many 15) = (k : Int)) (h1k : 1 ≤ k) (h16 : k ≤ 16) (s : ByteArray) : ∀ (d i m : Nat) (x : Chart_Engine), i + d = 10 → d < m → Fed (gLev k) (ws s i) x →
    ∃ r, templelaw16_ChartLevels.l1 K many s m (x, allL s i, (i : Int)) = some (.inl r)
  | 0, i, m, x, hi, hm, h => by
    obtain ⟨m, rfl⟩ : ∃ q, m = q + 1 := ⟨m - 1, by omega⟩
    have : i = 10 := by omega
    subst this
    simp only [templelaw16_ChartLevels.l1]
    split
    · exact ⟨_, rfl⟩
    · exact ⟨_, rfl⟩
  | d + 1, i, m, x, hi, hm, h => by
    obtain ⟨m, rfl⟩ : ∃ q, m = q + 1 := ⟨m - 1, by omega⟩
    have hab := lt_ab s i
    simp only [templelaw16_ChartLevels.l1]
    by_cases c : (i : Int) < (s.size : Int)
    · obtain ⟨x', f1, f2⟩ := feed_ok K hK h (c := lt s i) (by omega) (by omega) (by rw [ws_len]; omega)
      rw [← ws_succ] at f2
      have ej : (if allL s i = true then some (decide (lt s i = 97)) else some false) = some (allL s (i + 1)) := by
        rw [allL_succ]
        cases allL s i <;> simp
      have em : Int.tmod (k : Int) 2 = (k : Int) % 2 := Int.tmod_eq_emod_of_nonneg (by omega)
      rw [if_pos c, if_pos (by omega), if_pos (by omega), lt_eq, f1, Option.bind_some, ej, Option.bind_some, row_in h16 h1k K f2, Option.bind_some, hk, em, if_neg (by simp), wr (by omega) (by omega)]
      exact lev_l1 K hK many k hk h1k h16 s d (i + 1) m x' (by omega) (by omega) f2
    · rw [if_neg c]; exact ⟨_, rfl⟩
theorem Levels_true (K : Nat) (hK : 200000 ≤ K) (many : Int) (s : ByteArray) : templelaw16_ChartLevels (K + 100) many s = some true := by
  obtain ⟨k, hk, h1, h16⟩ : ∃ k : Nat, IntKind.wrap .i64 (1 + iand .i64 many 15) = (k : Int) ∧ 1 ≤ k ∧ k ≤ 16 := by
    have e := and15 many
    refine ⟨(1 + iand .i64 many 15).toNat, ?_, by omega, by omega⟩
    rw [wr (by omega) (by omega)]; omega
  have l0 := lev_l0 K many k hk h16 k 0 (K + 100) (by omega) (by omega)
  have l0 : templelaw16_ChartLevels.l0 (K + 100) many (K + 100) (([] : List Rule), ([] : List ByteArray), 0) = some ((List.range k).map lvR, (List.range k).map nameN, (k : Int)) := l0
  obtain ⟨e0, n0, f0⟩ := new_known (K + 100) (by omega) (lev_known h16 h1)
  obtain ⟨r, hr⟩ := lev_l1 (K + 100) (by omega) many k hk h1 h16 s 10 0 (K + 100) e0 rfl (by omega) f0
  unfold templelaw16_ChartLevels
  rw [awake_true (K + 100) (by omega), Option.bind_some, if_neg (by simp), l0, Option.bind_some]
  simp only
  rw [hk, if_pos (by simp; omega), if_pos (by simp; omega)]
  unfold gLev at n0
  rw [n0, Option.bind_some]
  simp only [num_eq, Option.bind_some]
  rw [if_neg (by simp)]
  erw [hr]
  rfl
theorem ChartLevels_holds (many : Int) (s : ByteArray) : ∃ K, templelaw16_ChartLevels K many s = some true := ⟨200000 + 100, Levels_true 200000 (Nat.le_refl _) many s⟩
end Go.Proofs.Ytpjhcllohagjoaa
