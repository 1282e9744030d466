import Derived.Test.YtpjhcllohagjoaaGreatW11
namespace Go.Proofs.YtpjhcllohagjoaaGreat
open S
set_option linter.unusedVariables false
set_option linter.unusedSimpArgs false
abbrev Sp := Int → Nat → Nat → Prop
def SymS (N : Sp) (w : Nat → Int) (s : Symbol) (i j : Nat) : Prop := if 0 ≤ s.Name then N s.Name i j else j = i + 1 ∧ s.Lo ≤ w i ∧ w i ≤ s.Hi
def SeqS (N : Sp) (w : Nat → Int) : List Symbol → Nat → Nat → Prop
 | [], i, j => i = j
 | s :: l, i, j => ∃ k, i ≤ k ∧ k ≤ j ∧ SymS N w s i k ∧ SeqS N w l k j
def RuleS (N : Sp) (w : Nat → Int) (r : Rule) (i j : Nat) : Prop := ∀ c ∈ r.Conj, (c.Neg = true ↔ ¬ SeqS N w c.Seq i j)
theorem SeqS.le {N : Sp} {w : Nat → Int} : ∀ {l : List Symbol} {i j : Nat}, SeqS N w l i j → i ≤ j
 | [], i, j, h => Nat.le_of_eq h
 | s :: l, i, j, ⟨k, h1, _, _, h⟩ => Nat.le_trans h1 h.le
theorem SeqS_snoc {N : Sp} {w : Nat → Int} {s : Symbol} : ∀ {l : List Symbol} {i j : Nat}, SeqS N w (l ++ [s]) i j ↔ ∃ k, i ≤ k ∧ k ≤ j ∧ SeqS N w l i k ∧ SymS N w s k j
 | [], i, j => by
  constructor
  ·rintro ⟨k, h1, h2, h3, h4⟩
   have : k = j := h4
   subst this
   exact ⟨i, Nat.le_refl _, h1, rfl, h3⟩
  ·rintro ⟨k, h1, h2, h3, h4⟩
   have : i = k := h3
   subst this
   exact ⟨j, h2, Nat.le_refl _, h4, rfl⟩
 | t :: l, i, j => by
  constructor
  ·rintro ⟨k, h1, h2, h3, h4⟩
   obtain ⟨q, q1, q2, q3, q4⟩ := SeqS_snoc.1 h4
   exact ⟨q, Nat.le_trans h1 q1, q2, ⟨k, h1, q1, h3, q3⟩, q4⟩
  ·rintro ⟨q, q1, q2, ⟨k, h1, h2, h3, h4⟩, q4⟩
   exact ⟨k, h1, Nat.le_trans h2 q2, h3, SeqS_snoc.2 ⟨q, h2, q2, h4, q4⟩⟩
theorem SymS_mono {A B : Sp} {w : Nat → Int} {s : Symbol} {i j : Nat} (h : 0 ≤ s.Name → A s.Name i j → B s.Name i j) (hs : SymS A w s i j) : SymS B w s i j := by
 unfold SymS at hs ⊢
 split at hs
 ·rename_i h0; rw [if_pos h0]; exact h h0 hs
 ·rename_i h0; rw [if_neg h0]; exact hs
theorem SeqS_mono {A B : Sp} {w : Nat → Int} : ∀ {l : List Symbol} {i j : Nat}, (∀ s ∈ l, 0 ≤ s.Name → ∀ a b, i ≤ a → a ≤ b → b ≤ j → A s.Name a b → B s.Name a b) → SeqS A w l i j → SeqS B w l i j
 | [], i, j, _, h => h
 | s :: l, i, j, hm, ⟨k, h1, h2, h3, h4⟩ => ⟨k, h1, h2, SymS_mono (fun h0 => hm s (List.mem_cons_self ..) h0 i k (Nat.le_refl _) h1 h2) h3, SeqS_mono (fun t ht h0 a b ha hab hb => hm t (List.mem_cons_of_mem _ ht) h0 a b (Nat.le_trans h1 ha) hab hb) h4⟩
def LvS (n : Nat) (rs : List Rule) (lv : Int → Int) : Prop := ∀ r ∈ rs, (0 ≤ r.Head ∧ r.Head < n) ∧ ∀ c ∈ r.Conj, ∀ s ∈ c.Seq, 0 ≤ s.Name → s.Name < n ∧ lv s.Name + (if c.Neg = true then 1 else 0) ≤ lv r.Head
theorem RuleS_mono {n : Nat} {rs : List Rule} {lv : Int → Int} (hl : LvS n rs lv) {w : Nat → Int} {r : Rule} (hr : r ∈ rs) {A B : Sp} {i j : Nat}
  (h1 : ∀ y : Int, 0 ≤ y → y < n → lv y < lv r.Head → ∀ a b, i ≤ a → a ≤ b → b ≤ j → (A y a b ↔ B y a b)) (h2 : ∀ y : Int, 0 ≤ y → y < n → lv y ≤ lv r.Head → ∀ a b, i ≤ a → a ≤ b → b ≤ j → A y a b → B y a b) (h : RuleS A w r i j) : RuleS B w r i j := by
 intro c hc
 have hs := (hl r hr).2 c hc
 have hh := h c hc
 cases hn : c.Neg with
 | true =>
  rw [hn] at hh
  refine ⟨fun _ hb => hh.1 rfl (SeqS_mono (fun s hm h0 a b ha hab hb' => ?_) hb), fun _ => rfl⟩
  have := hs s hm h0
  rw [hn] at this
  exact (h1 s.Name h0 this.1 (by simp at this; omega) a b ha hab hb').2
 | false =>
  rw [hn] at hh
  refine ⟨fun e => (by cases e), fun hb => ?_⟩
  have ha : SeqS A w c.Seq i j := Classical.byContradiction fun hx => by cases hh.2 hx
  refine (hb (SeqS_mono (fun s hm h0 a b ha' hab hb' => ?_) ha)).elim
  have := hs s hm h0
  rw [hn] at this
  exact h2 s.Name h0 this.1 (by simp at this; omega) a b ha' hab hb'
structure Lvl (n : Nat) (rs : List Rule) (lv : Int → Int) (H : (Int → Prop) → Rule → Prop) : Prop where
 hd : ∀ r ∈ rs, 0 ≤ r.Head ∧ r.Head < n
 mono : ∀ r ∈ rs, ∀ A B : Int → Prop, (∀ y : Int, 0 ≤ y → y < n → lv y < lv r.Head → (A y ↔ B y)) → (∀ y : Int, 0 ≤ y → y < n → lv y ≤ lv r.Head → A y → B y) → H A r → H B r
structure PM1 (n : Nat) (rs : List Rule) (lv : Int → Int) (H : (Int → Prop) → Rule → Prop) (has : Int → Prop) : Prop where
 cl : ∀ r ∈ rs, H has r → has r.Head
 su : ∀ x : Int, 0 ≤ x → x < n → has x → ∃ r ∈ rs, r.Head = x ∧ H has r
 mi : ∀ (t : Int) (M : Int → Prop), (∀ y : Int, 0 ≤ y → y < n → lv y < t → (M y ↔ has y)) → (∀ r ∈ rs, lv r.Head = t → H M r → M r.Head) → ∀ y : Int, 0 ≤ y → y < n → lv y = t → has y → M y
theorem PM1.uniq {n : Nat} {rs : List Rule} {lv : Int → Int} {H : (Int → Prop) → Rule → Prop} (h0 : ∀ y : Int, 0 ≤ y → y < n → 0 ≤ lv y) {A B : Int → Prop} (hA : PM1 n rs lv H A) (hB : PM1 n rs lv H B) : ∀ x : Int, 0 ≤ x → x < n → (A x ↔ B x) := by
 have key : ∀ t : Nat, ∀ x : Int, 0 ≤ x → x < n → lv x < t → (A x ↔ B x) := by
  intro t
  induction t with
  | zero => intro x h1 h2 h3; have := h0 x h1 h2; omega
  | succ t ih =>
   intro x h1 h2 h3
   by_cases hx : lv x < t
   ·exact ih x h1 h2 hx
   ·have hx' : lv x = t := by omega
    exact ⟨hA.mi t B (fun y y1 y2 y3 => (ih y y1 y2 y3).symm) (fun r hr _ h => hB.cl r hr h) x h1 h2 hx', hB.mi t A (fun y y1 y2 y3 => ih y y1 y2 y3) (fun r hr _ h => hA.cl r hr h) x h1 h2 hx'⟩
 intro x h1 h2
 refine key (lv x + 1).toNat x h1 h2 ?_
 have := h0 x h1 h2; omega
structure RI (n : Nat) (rs : List Rule) (lv : Int → Int) (H : (Int → Prop) → Rule → Prop) (t : Int) (has : Int → Prop) : Prop where
 a : ∀ x : Int, 0 ≤ x → x < n → has x → lv x ≤ t
 b : ∀ x : Int, 0 ≤ x → x < n → has x → ∃ r ∈ rs, r.Head = x ∧ H has r
 c : ∀ r ∈ rs, lv r.Head < t → H has r → has r.Head
 d : ∀ (t' : Int) (M : Int → Prop), (∀ y : Int, 0 ≤ y → y < n → lv y < t' → (M y ↔ has y)) → (∀ r ∈ rs, lv r.Head = t' → H M r → M r.Head) → ∀ y : Int, 0 ≤ y → y < n → lv y = t' → has y → M y
variable {n : Nat} {rs : List Rule} {lv : Int → Int} {H : (Int → Prop) → Rule → Prop}
theorem RI.zero (h0 : ∀ y : Int, 0 ≤ y → y < n → 0 ≤ lv y) (hl : Lvl n rs lv H) : RI n rs lv H 0 fun _ => False :=
 ⟨fun _ _ _ h => h.elim, fun _ _ _ h => h.elim, fun r hr h _ => by have := h0 r.Head (hl.hd r hr).1 (hl.hd r hr).2; omega, fun _ _ _ _ _ _ _ _ h => h.elim⟩
theorem RI.put {t : Int} {has : Int → Prop} (hl : Lvl n rs lv H) (h : RI n rs lv H t has) {r : Rule} (hr : r ∈ rs) (ht : lv r.Head = t) (hh : H has r) : RI n rs lv H t fun x => has x ∨ x = r.Head := by
 have hd := hl.hd r hr
 refine ⟨fun x h1 h2 hx => hx.elim (h.a x h1 h2) (fun e => by rw [e]; omega), fun x h1 h2 hx => ?_, fun q hq hlt hH => ?_, fun t' M hM hc y h1 h2 hy hx => ?_⟩
 ·have up : ∀ q ∈ rs, H has q → H (fun x => has x ∨ x = r.Head) q ∨ t ≤ lv q.Head := fun q hq hH => by
   by_cases e : t ≤ lv q.Head
   ·exact .inr e
   ·refine .inl (hl.mono q hq _ _ (fun y y1 y2 y3 => ⟨.inl, fun z => z.elim id fun e' => ?_⟩) (fun y _ _ _ z => .inl z) hH)
    rw [e', ht] at y3; omega
  have up2 : ∀ q ∈ rs, t ≤ lv q.Head → lv q.Head ≤ t → H has q → H (fun x => has x ∨ x = r.Head) q := fun q hq h1 h2 hH => hl.mono q hq _ _ (fun y y1 y2 y3 => ⟨.inl, fun z => z.elim id fun e' => by rw [e', ht] at y3; omega⟩) (fun y _ _ _ z => .inl z) hH
  have any : ∀ q ∈ rs, lv q.Head ≤ t → H has q → H (fun x => has x ∨ x = r.Head) q := fun q hq hle hH => (up q hq hH).elim id fun e => up2 q hq e hle hH
  rcases hx with hx | hx
  ·obtain ⟨q, hq, e, hH⟩ := h.b x h1 h2 hx
   exact ⟨q, hq, e, any q hq (by rw [e]; exact h.a x h1 h2 hx) hH⟩
  ·exact ⟨r, hr, hx.symm, any r hr (by omega) hh⟩
 ·refine .inl (h.c q hq hlt (hl.mono q hq _ _ (fun y y1 y2 y3 => ⟨fun z => z.elim id fun e' => ?_, .inl⟩) (fun y _ _ y3 z => z.elim id fun e' => ?_) hH))
  ·rw [e', ht] at y3; omega
  ·rw [e', ht] at y3; omega
 ·by_cases e : t < t'
  ·rcases hx with hx | hx
   ·have := h.a y h1 h2 hx; omega
   ·rw [hx, ht] at hy; omega
  ·have hM' : ∀ z : Int, 0 ≤ z → z < n → lv z < t' → (M z ↔ has z) := fun z z1 z2 z3 => by
    rw [hM z z1 z2 z3]
    exact ⟨fun q => q.elim id fun e' => by rw [e', ht] at z3; omega, .inl⟩
   rcases hx with hx | hx
   ·exact h.d t' M hM' hc y h1 h2 hy hx
   ·subst hx
    have et : t' = t := by omega
    subst et
    exact hc r hr ht (hl.mono r hr _ _ (fun z z1 z2 z3 => (hM' z z1 z2 (by omega)).symm) (fun z z1 z2 z3 q => by
     by_cases e3 : lv z < t'
     ·exact (hM' z z1 z2 e3).2 q
     ·exact h.d t' M hM' hc z z1 z2 (by omega) q) hh)
theorem RI.puts {t : Int} {has A : Int → Prop} (hl : Lvl n rs lv H) (h : RI n rs lv H t has) (hA : ∀ x, A x → ∃ r ∈ rs, r.Head = x ∧ lv x = t ∧ H has r) : RI n rs lv H t fun x => has x ∨ A x := by
 have lo : ∀ y : Int, lv y < t → ((has y ∨ A y) ↔ has y) := fun y hy => ⟨fun z => z.elim id fun e => by obtain ⟨r, _, _, h2, _⟩ := hA y e; omega, .inl⟩
 have any : ∀ q ∈ rs, lv q.Head ≤ t → H has q → H (fun x => has x ∨ A x) q := fun q hq hle hH => hl.mono q hq _ _ (fun y y1 y2 y3 => (lo y (by omega)).symm) (fun y _ _ _ z => .inl z) hH
 refine ⟨fun x h1 h2 hx => hx.elim (h.a x h1 h2) (fun e => by obtain ⟨r, _, _, h3, _⟩ := hA x e; omega), fun x h1 h2 hx => ?_, fun q hq hlt hH => .inl (h.c q hq hlt (hl.mono q hq _ _ (fun y y1 y2 y3 => lo y (by omega)) (fun y _ _ y3 z => (lo y (by omega)).1 z) hH)), fun t' M hM hc y h1 h2 hy hx => ?_⟩
 ·rcases hx with hx | hx
  ·obtain ⟨q, hq, e, hH⟩ := h.b x h1 h2 hx
   exact ⟨q, hq, e, any q hq (by rw [e]; exact h.a x h1 h2 hx) hH⟩
  ·obtain ⟨r, hr, e, h3, hH⟩ := hA x hx
   exact ⟨r, hr, e, any r hr (by rw [e]; omega) hH⟩
 ·by_cases e : t < t'
  ·rcases hx with hx | hx
   ·have := h.a y h1 h2 hx; omega
   ·obtain ⟨r, _, _, h3, _⟩ := hA y hx; omega
  ·have hM' : ∀ z : Int, 0 ≤ z → z < n → lv z < t' → (M z ↔ has z) := fun z z1 z2 z3 => by
    rw [hM z z1 z2 z3]; exact lo z (by omega)
   rcases hx with hx | hx
   ·exact h.d t' M hM' hc y h1 h2 hy hx
   ·obtain ⟨r, hr, er, h3, hH⟩ := hA y hx
    have et : t' = t := by omega
    subst et
    subst er
    exact hc r hr h3 (hl.mono r hr _ _ (fun z z1 z2 z3 => (hM' z z1 z2 (by omega)).symm) (fun z z1 z2 z3 q => by
     by_cases e3 : lv z < t'
     ·exact (hM' z z1 z2 e3).2 q
     ·exact h.d t' M hM' hc z z1 z2 (by omega) q) hH)
theorem RI.up {t : Int} {has : Int → Prop} (h : RI n rs lv H t has) (hc : ∀ r ∈ rs, lv r.Head = t → H has r → has r.Head) : RI n rs lv H (t + 1) has :=
 ⟨fun x h1 h2 hx => by have := h.a x h1 h2 hx; omega, h.b, fun r hr hlt hH => by
  by_cases e : lv r.Head < t
  ·exact h.c r hr e hH
  ·exact hc r hr (by omega) hH, h.d⟩
theorem RI.done {t : Int} {has : Int → Prop} (h : RI n rs lv H t has) (hl : Lvl n rs lv H) (ht : ∀ y : Int, 0 ≤ y → y < n → lv y < t) : PM1 n rs lv H has :=
 ⟨fun r hr hH => h.c r hr (ht _ (hl.hd r hr).1 (hl.hd r hr).2) hH, h.b, h.d⟩
theorem RI_on {t : Int} {A B : Int → Prop} (h : RI n rs lv H t A) (e : ∀ y : Int, 0 ≤ y → y < n → (B y ↔ A y)) (hl : Lvl n rs lv H) : RI n rs lv H t B := by
 have up : ∀ r ∈ rs, H A r → H B r := fun r hr hH => hl.mono r hr A B (fun y y1 y2 _ => (e y y1 y2).symm) (fun y y1 y2 _ => (e y y1 y2).2) hH
 have dn : ∀ r ∈ rs, H B r → H A r := fun r hr hH => hl.mono r hr B A (fun y y1 y2 _ => e y y1 y2) (fun y y1 y2 _ => (e y y1 y2).1) hH
 exact ⟨fun x h1 h2 hx => h.a x h1 h2 ((e x h1 h2).1 hx), fun x h1 h2 hx => let ⟨r, hr, er, hH⟩ := h.b x h1 h2 ((e x h1 h2).1 hx); ⟨r, hr, er, up r hr hH⟩, fun r hr hlt hH => (e _ (hl.hd r hr).1 (hl.hd r hr).2).2 (h.c r hr hlt (dn r hr hH)),
  fun t' M hM hc y h1 h2 hy hx => h.d t' M (fun y y1 y2 y3 => (hM y y1 y2 y3).trans (e y y1 y2)) hc y h1 h2 hy ((e y h1 h2).1 hx)⟩
theorem RI.congr {t : Int} {A B : Int → Prop} (h : RI n rs lv H t A) (e : A = B) : RI n rs lv H t B := e ▸ h
def upd (N : Sp) (i j : Nat) (M : Int → Prop) : Sp := fun x a b => if a = i ∧ b = j then M x else N x a b
theorem upd_self {N : Sp} {i j : Nat} : upd N i j (fun x => N x i j) = N := by
 funext x a b
 unfold upd
 split
 ·rename_i h; rw [h.1, h.2]
 ·rfl
def HS (N : Sp) (w : Nat → Int) (i j : Nat) (M : Int → Prop) (r : Rule) : Prop := RuleS (upd N i j M) w r i j
theorem HS_lvl {n : Nat} {rs : List Rule} {lv : Int → Int} (hl : LvS n rs lv) (N : Sp) (w : Nat → Int) (i j : Nat) : Lvl n rs lv (HS N w i j) :=
 ⟨fun r hr => (hl r hr).1, fun r hr A B h1 h2 h => RuleS_mono hl hr (fun y y1 y2 y3 a b _ _ _ => by
  unfold upd; split
  ·exact h1 y y1 y2 y3
  ·exact Iff.rfl) (fun y y1 y2 y3 a b _ _ _ => by
  unfold upd; split
  ·exact h2 y y1 y2 y3
  ·exact id) h⟩
theorem HS_env {n : Nat} {rs : List Rule} {lv : Int → Int} (hl : LvS n rs lv) {A B : Sp} {w : Nat → Int} {i j : Nat} {M : Int → Prop} {r : Rule} (hr : r ∈ rs) (h : ∀ y : Int, 0 ≤ y → y < n → ∀ a b, i ≤ a → a ≤ b → b ≤ j → ¬ (a = i ∧ b = j) → (A y a b ↔ B y a b)) : HS A w i j M r → HS B w i j M r :=
 RuleS_mono hl hr (fun y y1 y2 _ a b h1 h2 h3 => by
  unfold upd; split
  ·exact Iff.rfl
  ·rename_i e; exact h y y1 y2 a b h1 h2 h3 e) (fun y y1 y2 _ a b h1 h2 h3 => by
  unfold upd; split
  ·exact id
  ·rename_i e; exact (h y y1 y2 a b h1 h2 h3 e).1)
theorem PM1.env {n : Nat} {rs : List Rule} {lv : Int → Int} (hl : LvS n rs lv) {A B : Sp} {w : Nat → Int} {i j : Nat} {has : Int → Prop} (h : ∀ y : Int, 0 ≤ y → y < n → ∀ a b, i ≤ a → a ≤ b → b ≤ j → ¬ (a = i ∧ b = j) → (A y a b ↔ B y a b)) (hp : PM1 n rs lv (HS A w i j) has) : PM1 n rs lv (HS B w i j) has := by
 have h' : ∀ y : Int, 0 ≤ y → y < n → ∀ a b, i ≤ a → a ≤ b → b ≤ j → ¬ (a = i ∧ b = j) → (B y a b ↔ A y a b) := fun y y1 y2 a b h1 h2 h3 h4 => (h y y1 y2 a b h1 h2 h3 h4).symm
 exact ⟨fun r hr hH => hp.cl r hr (HS_env hl hr h' hH), fun x x1 x2 hx => let ⟨r, hr, e, hH⟩ := hp.su x x1 x2 hx; ⟨r, hr, e, HS_env hl hr h hH⟩, fun t M hM hc => hp.mi t M hM fun r hr ht hH => hc r hr ht (HS_env hl hr h hH)⟩
def PMs (n : Nat) (rs : List Rule) (lv : Int → Int) (w : Nat → Int) (L : Nat) (N : Sp) : Prop := ∀ i j, i ≤ j → j ≤ L → PM1 n rs lv (HS N w i j) fun x => N x i j
theorem PMs.uniq {n : Nat} {rs : List Rule} {lv : Int → Int} {w : Nat → Int} {L : Nat} (hl : LvS n rs lv) (h0 : ∀ y : Int, 0 ≤ y → y < n → 0 ≤ lv y) {A B : Sp} (hA : PMs n rs lv w L A) (hB : PMs n rs lv w L B) : ∀ i j, i ≤ j → j ≤ L → ∀ x : Int, 0 ≤ x → x < n → (A x i j ↔ B x i j) := by
 have key : ∀ d i j, j - i < d → i ≤ j → j ≤ L → ∀ x : Int, 0 ≤ x → x < n → (A x i j ↔ B x i j) := by
  intro d
  induction d with
  | zero => intro i j h; omega
  | succ d ih =>
   intro i j hd hij hj
   have e : ∀ y : Int, 0 ≤ y → y < n → ∀ a b, i ≤ a → a ≤ b → b ≤ j → ¬ (a = i ∧ b = j) → (A y a b ↔ B y a b) := fun y y1 y2 a b h1 h2 h3 h4 => ih a b (by omega) h2 (by omega) y y1 y2
   exact PM1.uniq h0 ((hA i j hij hj).env hl e) (hB i j hij hj)
 intro i j hij hj
 exact key (j - i + 1) i j (by omega) hij hj
theorem PMs.cl {n : Nat} {rs : List Rule} {lv : Int → Int} {w : Nat → Int} {L : Nat} {N : Sp} (h : PMs n rs lv w L N) {r : Rule} (hr : r ∈ rs) {i j : Nat} (hij : i ≤ j) (hj : j ≤ L) (hR : RuleS N w r i j) : N r.Head i j :=
 (h i j hij hj).cl r hr (by unfold HS; rw [upd_self]; exact hR)
theorem PMs.su {n : Nat} {rs : List Rule} {lv : Int → Int} {w : Nat → Int} {L : Nat} {N : Sp} (h : PMs n rs lv w L N) {x : Int} (h0 : 0 ≤ x) (h1 : x < n) {i j : Nat} (hij : i ≤ j) (hj : j ≤ L) (hx : N x i j) : ∃ r ∈ rs, r.Head = x ∧ RuleS N w r i j := by
 obtain ⟨r, hr, e, hH⟩ := (h i j hij hj).su x h0 h1 hx
 unfold HS at hH; rw [upd_self] at hH
 exact ⟨r, hr, e, hH⟩
theorem PMs.less {n : Nat} {rs : List Rule} {lv : Int → Int} {w : Nat → Int} {L L' : Nat} {N : Sp} (h : PMs n rs lv w L N) (hL : L' ≤ L) : PMs n rs lv w L' N := fun i j hij hj => h i j hij (Nat.le_trans hj hL)
theorem SeqS_word {N : Sp} {w w' : Nat → Int} : ∀ {l : List Symbol} {i j : Nat}, (∀ k, k < j → w k = w' k) → SeqS N w l i j → SeqS N w' l i j
 | [], i, j, _, h => h
 | s :: l, i, j, hw, ⟨k, h1, h2, h3, h4⟩ => ⟨k, h1, h2, by
   unfold SymS at h3 ⊢
   split at h3
   ·rename_i e; rw [if_pos e]; exact h3
   ·rename_i e; rw [if_neg e, ← hw i (by omega)]; exact h3, SeqS_word hw h4⟩
theorem RuleS_word {N : Sp} {w w' : Nat → Int} {r : Rule} {i j : Nat} (hw : ∀ k, k < j → w k = w' k) (h : RuleS N w r i j) : RuleS N w' r i j := fun c hc =>
 (h c hc).trans (not_congr ⟨SeqS_word hw, SeqS_word fun k hk => (hw k hk).symm⟩)
theorem PMs.congr {n : Nat} {rs : List Rule} {lv : Int → Int} {w : Nat → Int} {L : Nat} {A B : Sp} (h : PMs n rs lv w L A) (e : ∀ x i j, i ≤ j → j ≤ L → (A x i j ↔ B x i j)) (hl : LvS n rs lv) : PMs n rs lv w L B := fun i j hij hj => by
 have h1 := (h i j hij hj).env hl (B := B) fun y _ _ a b _ h2 h3 _ => e y a b h2 (by omega)
 have h2 : (fun x => A x i j) = fun x => B x i j := by funext x; exact propext (e x i j hij hj)
 rw [← h2]; exact h1
end Go.Proofs.YtpjhcllohagjoaaGreat

namespace Go.Proofs.YtpjhcllohagjoaaGreat
open S
set_option linter.unusedVariables false
set_option linter.unusedSimpArgs false
def okW (v : Int) : Prop := 0 ≤ v ∧ v < 18446744073709551616
def bit (v : Int) (i : Nat) : Bool := v.toNat.testBit i
theorem okW0 : okW 0 := ⟨by decide, by decide⟩
theorem bit0 (i : Nat) : bit 0 i = false := by simp [bit]
theorem okW_lt {v : Int} (h : okW v) : v.toNat < 2 ^ 64 := by have := h.1; have := h.2; omega
theorem okW_cast {v : Int} (h : okW v) : ((v.toNat : Nat) : Int) = v := Int.toNat_of_nonneg h.1
theorem shr1 {v : Int} (h : okW v) (i : Nat) : iand .u64 (ishr .u64 v (i : Int)) 1 = if bit v i = true then 1 else 0 := by
 have := shr_bit (n := v.toNat) (j := i) (okW_lt h)
 rw [okW_cast h] at this
 rw [this]; unfold bit; split <;> simp_all
theorem and_one {v : Int} (h : okW v) : iand .u64 v 1 = if bit v 0 = true then 1 else 0 := by
 have := shr1 h 0
 rw [ishr] at this
 simpa using this
theorem or_ok {v : Int} (h : okW v) {i : Nat} (hi : i < 64) : okW (ior .u64 v (ishl .u64 1 (i : Int))) := by
 have h1 := ishl_nat hi
 rw [h1, ← okW_cast h, ior_nat (okW_lt h) (Nat.pow_lt_pow_right (by decide) hi)]
 have := Nat.or_lt_two_pow (okW_lt h) (Nat.pow_lt_pow_right (show 1 < 2 by decide) hi)
 exact ⟨Int.natCast_nonneg _, by omega⟩
theorem or_bit {v : Int} (h : okW v) {i : Nat} (hi : i < 64) (k : Nat) : bit (ior .u64 v (ishl .u64 1 (i : Int))) k = (bit v k || decide (k = i)) := by
 have h1 := ishl_nat hi
 rw [h1, ← okW_cast h, ior_nat (okW_lt h) (Nat.pow_lt_pow_right (by decide) hi)]
 simp only [bit, Int.toNat_natCast, Nat.testBit_or, Nat.testBit_two_pow]
 by_cases e : i = k
 ·subst e; simp
 ·have e' : ¬ k = i := fun x => e x.symm
  simp [e, e']
variable {T : Type} [Inhabited T]
theorem rd_set' {xs : List T} {i : Nat} {x : T} (k : Nat) : rd (xs.set i x) (k : Int) = if i = k ∧ i < xs.length then x else rd xs (k : Int) := by
 by_cases h : i < xs.length
 ·rw [rd_set x h]; simp [h]
 ·rw [List.set_eq_of_length_le (by omega)]; simp [h]
theorem rd_out {xs : List T} {k : Nat} (h : xs.length ≤ k) : rd xs (k : Int) = default := by simp [rd, List.getD_eq_getElem?_getD, h]
theorem rd_app_lt {xs ys : List T} {k : Nat} (h : k < xs.length) : rd (xs ++ ys) (k : Int) = rd xs (k : Int) := by simp [rd, List.getD_eq_getElem?_getD, List.getElem?_append_left h]
theorem rd_app_at {xs : List T} {y : T} : rd (xs ++ [y]) (xs.length : Int) = y := by simp [rd, List.getD_eq_getElem?_getD]
theorem take_succ_rd {xs : List T} {m : Nat} (h : m < xs.length) : xs.take (m + 1) = xs.take m ++ [rd xs (m : Int)] := by
 rw [List.take_add_one, List.getElem?_eq_getElem h]
 simp [rd, List.getD_eq_getElem?_getD, h]
theorem rd_mem' {xs : List T} {k : Nat} (h : k < xs.length) : rd xs (k : Int) ∈ xs := rd_mem (Int.natCast_nonneg _) (by omega)
theorem mem_rd {xs : List T} {x : T} (h : x ∈ xs) : ∃ k, k < xs.length ∧ rd xs (k : Int) = x := by
 obtain ⟨k, hk, e⟩ := List.getElem_of_mem h
 exact ⟨k, hk, by simp [rd, List.getD_eq_getElem?_getD, hk, e]⟩
end Go.Proofs.YtpjhcllohagjoaaGreat

namespace Go.Proofs.YtpjhcllohagjoaaGreat
open S
set_option linter.unusedVariables false
set_option linter.unusedSimpArgs false
set_option maxRecDepth 10000
abbrev sq (g : Grammar) (r c : Nat) : List Symbol := (rd (rd g.Rules (r : Int)).Conj (c : Int)).Seq
abbrev nc (g : Grammar) (r : Nat) : Nat := (rd g.Rules (r : Int)).Conj.length
abbrev wf (w : List Int) : Nat → Int := fun k => rd w (k : Int)
structure CX (g : Grammar) (xs w : List Int) : Prop where
 may : mayP g
 xl : xs.length = g.Names.length
 lv : LvS g.Names.length g.Rules (rd xs)
 l0 : ∀ y : Int, 0 ≤ y → y < g.Names.length → 0 ≤ rd xs y
 l1 : ∀ y : Int, 0 ≤ y → y < g.Names.length → rd xs y ≤ (g.Names.length : Int) - 1
 wl : w.length ≤ 32
 wb : ∀ k : Nat, k < w.length → 0 ≤ rd w (k : Int) ∧ rd w (k : Int) < 256
theorem CX.nl {g : Grammar} {xs w : List Int} (h : CX g xs w) : g.Names.length ≤ 64 := h.may.1.2.1
theorem CX.rl {g : Grammar} {xs w : List Int} (h : CX g xs w) : g.Rules.length ≤ 256 := h.may.2.2.2.2.1
theorem CX.cl {g : Grammar} {xs w : List Int} (h : CX g xs w) {r : Nat} (hr : r < g.Rules.length) : nc g r ≤ 8 := ((may_bd h.may).2 _ (rd_mem' hr)).1
theorem CX.ql {g : Grammar} {xs w : List Int} (h : CX g xs w) {r c : Nat} (hr : r < g.Rules.length) (hc : c < nc g r) : (sq g r c).length ≤ 64 := ((may_bd h.may).2 _ (rd_mem' hr)).2 _ (rd_mem' hc)
theorem CX.hd {g : Grammar} {xs w : List Int} (h : CX g xs w) {r : Nat} (hr : r < g.Rules.length) : 0 ≤ (rd g.Rules (r : Int)).Head ∧ (rd g.Rules (r : Int)).Head < g.Names.length := (h.lv _ (rd_mem' hr)).1
theorem CX.sy {g : Grammar} {xs w : List Int} (h : CX g xs w) {r c m : Nat} (hr : r < g.Rules.length) (hc : c < nc g r) (hm : m < (sq g r c).length) : (rd (sq g r c) (m : Int)).Name < g.Names.length := by
 by_cases h0 : 0 ≤ (rd (sq g r c) (m : Int)).Name
 ·exact ((h.lv _ (rd_mem' hr)).2 _ (rd_mem' hc) _ (rd_mem' hm) h0).1
 ·have := h.may.1.1; omega
theorem iff1 {p : Prop} [Decidable p] {a b : Int} (hab : a ≠ b) (q : Bool) : ((if q = true then a else b) = a) ↔ q = true := by
 cases q <;> simp [hab.symm]
theorem SeqS_env {A B : Sp} {w : Nat → Int} {l : List Symbol} {i j : Nat} (h : ∀ s ∈ l, 0 ≤ s.Name → ∀ a b, i ≤ a → a ≤ b → b ≤ j → (A s.Name a b ↔ B s.Name a b)) : SeqS A w l i j ↔ SeqS B w l i j :=
 ⟨SeqS_mono fun s hs h0 a b h1 h2 h3 => (h s hs h0 a b h1 h2 h3).1, SeqS_mono fun s hs h0 a b h1 h2 h3 => (h s hs h0 a b h1 h2 h3).2⟩
theorem rd_map {A B : Type} [Inhabited A] [Inhabited B] {f : A → B} {l : List A} {k : Nat} (h : k < l.length) : rd (l.map f) (k : Int) = f (rd l (k : Int)) := by
 simp [rd, List.getD_eq_getElem?_getD, h]
theorem PM1.wd {n : Nat} {rs : List Rule} {lv : Int → Int} {N : Sp} {w w' : Nat → Int} {i j : Nat} {has : Int → Prop} (h : PM1 n rs lv (HS N w i j) has) (hw : ∀ k, k < j → w k = w' k) : PM1 n rs lv (HS N w' i j) has := by
 have a : ∀ {M : Int → Prop} {r : Rule}, HS N w i j M r → HS N w' i j M r := fun hH => RuleS_word hw hH
 have b : ∀ {M : Int → Prop} {r : Rule}, HS N w' i j M r → HS N w i j M r := fun hH => RuleS_word (fun k hk => (hw k hk).symm) hH
 exact ⟨fun r hr hH => h.cl r hr (b hH), fun x x1 x2 hx => let ⟨r, hr, e, hH⟩ := h.su x x1 x2 hx; ⟨r, hr, e, a hH⟩, fun t M hM hc => h.mi t M hM fun r hr ht hH => hc r hr ht (a hH)⟩
end Go.Proofs.YtpjhcllohagjoaaGreat

namespace Go.Proofs.YtpjhcllohagjoaaGreat
open S
set_option linter.unusedVariables false
set_option linter.unusedSimpArgs false
set_option maxRecDepth 10000
def sg (X : List Q1) (k r c : Nat) : List Int := rd (rd (rd X (k : Int)).begun (r : Int)) (c : Int)
def NS (X : List Q1) : Sp := fun x i k => bit (rd (rd X (k : Int)).names x) i = true
def BS (X : List Q1) (r c m i k : Nat) : Prop := bit (rd (sg X k r c) (m : Int)) i = true
structure Shp (g : Grammar) (X : List Q1) : Prop where
 n1 : ∀ k, k < X.length → (rd X (k : Int)).names.length = g.Names.length
 n2 : ∀ k, k < X.length → ∀ x : Nat, x < g.Names.length → okW (rd (rd X (k : Int)).names (x : Int))
 b1 : ∀ k, k < X.length → (rd X (k : Int)).begun.length = g.Rules.length
 b2 : ∀ k, k < X.length → ∀ r, r < g.Rules.length → (rd (rd X (k : Int)).begun (r : Int)).length = nc g r
 b3 : ∀ k, k < X.length → ∀ r, r < g.Rules.length → ∀ c, c < nc g r → (sg X k r c).length = (sq g r c).length + 1
 b4 : ∀ k, k < X.length → ∀ r, r < g.Rules.length → ∀ c, c < nc g r → ∀ m : Nat, m ≤ (sq g r c).length → okW (rd (sg X k r c) (m : Int))
def setB (X : List Q1) (j r c m : Nat) (v : Int) : List Q1 := X.set j ⟨(rd X (j : Int)).names, (rd X (j : Int)).begun.set r ((rd (rd X (j : Int)).begun (r : Int)).set c ((rd (rd (rd X (j : Int)).begun (r : Int)) (c : Int)).set m v))⟩
def setN (X : List Q1) (j x : Nat) (v : Int) : List Q1 := X.set j ⟨(rd X (j : Int)).names.set x v, (rd X (j : Int)).begun⟩
theorem setB_len (X : List Q1) (j r c m : Nat) (v : Int) : (setB X j r c m v).length = X.length := by simp [setB]
theorem setN_len (X : List Q1) (j x : Nat) (v : Int) : (setN X j x v).length = X.length := by simp [setN]
theorem setB_nm (X : List Q1) (j r c m : Nat) (v : Int) (k : Nat) : (rd (setB X j r c m v) (k : Int)).names = (rd X (k : Int)).names := by
 unfold setB; rw [rd_set']
 split
 ·rename_i h; rw [← h.1]
 ·rfl
theorem setN_bg (X : List Q1) (j x : Nat) (v : Int) (k : Nat) : (rd (setN X j x v) (k : Int)).begun = (rd X (k : Int)).begun := by
 unfold setN; rw [rd_set']
 split
 ·rename_i h; rw [← h.1]
 ·rfl
theorem setN_sg (X : List Q1) (j x : Nat) (v : Int) (k r c : Nat) : sg (setN X j x v) k r c = sg X k r c := by unfold sg; rw [setN_bg]
theorem setB_row {X : List Q1} {j r c m : Nat} {v : Int} (hj : j < X.length) (hr : r < (rd X (j : Int)).begun.length) (k r' : Nat) : rd (rd (setB X j r c m v) (k : Int)).begun (r' : Int) = if k = j ∧ r' = r then (rd (rd X (j : Int)).begun (r : Int)).set c ((sg X j r c).set m v) else rd (rd X (k : Int)).begun (r' : Int) := by
 unfold setB; rw [rd_set']
 by_cases h : j = k
 ·subst h
  rw [if_pos ⟨rfl, hj⟩]
  show rd (List.set _ _ _) _ = _
  rw [rd_set']
  by_cases h2 : r = r'
  ·subst h2; rw [if_pos ⟨rfl, hr⟩, if_pos ⟨rfl, rfl⟩]; rfl
  ·rw [if_neg (fun x => h2 x.1), if_neg (fun x => h2 x.2.symm)]
 ·rw [if_neg (fun x => h x.1), if_neg (fun x => h x.1.symm)]
theorem setB_sg {X : List Q1} {j r c m : Nat} {v : Int} (hj : j < X.length) (hr : r < (rd X (j : Int)).begun.length) (hc : c < (rd (rd X (j : Int)).begun (r : Int)).length) (k r' c' : Nat) : sg (setB X j r c m v) k r' c' = if k = j ∧ r' = r ∧ c' = c then (sg X j r c).set m v else sg X k r' c' := by
 show rd (rd (rd (setB X j r c m v) (k : Int)).begun (r' : Int)) (c' : Int) = _
 rw [setB_row hj hr]
 by_cases h : k = j ∧ r' = r
 ·rw [if_pos h, rd_set']
  by_cases h2 : c = c'
  ·rw [if_pos ⟨h2, hc⟩, if_pos ⟨h.1, h.2, h2.symm⟩]
  ·rw [if_neg (fun x => h2 x.1), if_neg (fun x => h2 x.2.2.symm), h.1, h.2]; rfl
 ·rw [if_neg h, if_neg (fun x => h ⟨x.1, x.2.1⟩)]; rfl
theorem setB_bl {X : List Q1} {j r c m : Nat} {v : Int} (k : Nat) : (rd (setB X j r c m v) (k : Int)).begun.length = (rd X (k : Int)).begun.length := by
 unfold setB; rw [rd_set']
 split
 ·rename_i h; rw [← h.1]; simp
 ·rfl
theorem setB_shp {g : Grammar} {X : List Q1} (h : Shp g X) {j r c m : Nat} {v : Int} (hj : j < X.length) (hr : r < g.Rules.length) (hc : c < nc g r) (hv : okW v) : Shp g (setB X j r c m v) := by
 have hr' : r < (rd X (j : Int)).begun.length := by rw [h.b1 j hj]; exact hr
 have hc' : c < (rd (rd X (j : Int)).begun (r : Int)).length := by rw [h.b2 j hj r hr]; exact hc
 refine ⟨fun k hk => ?_, fun k hk x hx => ?_, fun k hk => ?_, fun k hk r' h1 => ?_, fun k hk r' h1 c' h2 => ?_, fun k hk r' h1 c' h2 m' h3 => ?_⟩
 all_goals rw [setB_len] at hk
 ·rw [setB_nm]; exact h.n1 k hk
 ·rw [setB_nm]; exact h.n2 k hk x hx
 ·rw [setB_bl]; exact h.b1 k hk
 ·rw [setB_row hj hr']
  split
  ·rename_i e; rw [List.length_set, e.2]; exact h.b2 j hj r hr
  ·exact h.b2 k hk r' h1
 ·rw [setB_sg hj hr' hc']
  split
  ·rename_i e; rw [List.length_set, e.2.1, e.2.2]; exact h.b3 j hj r hr c hc
  ·exact h.b3 k hk r' h1 c' h2
 ·rw [setB_sg hj hr' hc']
  split
  ·rename_i e; rw [rd_set']
   split
   ·exact hv
   ·rw [e.2.1, e.2.2] at h3; exact h.b4 j hj r hr c hc m' h3
  ·exact h.b4 k hk r' h1 c' h2 m' h3
theorem setB_BS {g : Grammar} {X : List Q1} (h : Shp g X) {j r c m i : Nat} (hj : j < X.length) (hr : r < g.Rules.length) (hc : c < nc g r) (hm : m ≤ (sq g r c).length) (hi : i < 64) (r' c' m' i' k : Nat) :
  BS (setB X j r c m (ior .u64 (rd (sg X j r c) (m : Int)) (ishl .u64 1 (i : Int)))) r' c' m' i' k ↔ BS X r' c' m' i' k ∨ (k = j ∧ r' = r ∧ c' = c ∧ m' = m ∧ i' = i) := by
 have hr' : r < (rd X (j : Int)).begun.length := by rw [h.b1 j hj]; exact hr
 have hc' : c < (rd (rd X (j : Int)).begun (r : Int)).length := by rw [h.b2 j hj r hr]; exact hc
 unfold BS
 rw [setB_sg hj hr' hc']
 by_cases e : k = j ∧ r' = r ∧ c' = c
 ·rw [if_pos e, rd_set']
  by_cases e2 : m = m'
  ·subst e2
   rw [if_pos ⟨rfl, by rw [h.b3 j hj r hr c hc]; omega⟩, or_bit (h.b4 j hj r hr c hc m hm) hi, e.1, e.2.1, e.2.2]
   simp
  ·rw [if_neg (fun x => e2 x.1), e.1, e.2.1, e.2.2]
   exact ⟨.inl, fun x => x.elim id fun y => (e2 y.2.2.2.1.symm).elim⟩
 ·rw [if_neg e]
  exact ⟨.inl, fun x => x.elim id fun y => (e ⟨y.1, y.2.1, y.2.2.1⟩).elim⟩
theorem setB_NS (X : List Q1) (j r c m : Nat) (v : Int) : NS (setB X j r c m v) = NS X := by
 funext x i k; unfold NS; rw [setB_nm]
theorem setN_shp {g : Grammar} {X : List Q1} (h : Shp g X) {j x : Nat} {v : Int} (hj : j < X.length) (hv : okW v) : Shp g (setN X j x v) := by
 refine ⟨fun k hk => ?_, fun k hk x' hx' => ?_, fun k hk => ?_, fun k hk r' h1 => ?_, fun k hk r' h1 c' h2 => ?_, fun k hk r' h1 c' h2 m' h3 => ?_⟩
 all_goals rw [setN_len] at hk
 ·unfold setN; rw [rd_set']
  split
  ·simp only [List.length_set]; exact h.n1 j hj
  ·exact h.n1 k hk
 ·unfold setN; rw [rd_set']
  split
  ·simp only [rd_set']
   split
   ·exact hv
   ·exact h.n2 j hj x' hx'
  ·exact h.n2 k hk x' hx'
 ·rw [setN_bg]; exact h.b1 k hk
 ·rw [setN_bg]; exact h.b2 k hk r' h1
 ·rw [setN_sg]; exact h.b3 k hk r' h1 c' h2
 ·rw [setN_sg]; exact h.b4 k hk r' h1 c' h2 m' h3
theorem NS_neg {X : List Q1} {x : Int} {i k : Nat} (h : x < 0) : NS X x i k ↔ NS X 0 i k := by
 unfold NS
 have : rd (rd X (k : Int)).names x = rd (rd X (k : Int)).names 0 := by simp [rd, Int.toNat_of_nonpos (Int.le_of_lt h)]
 rw [this]
theorem setN_NS {g : Grammar} {X : List Q1} (h : Shp g X) {j x i : Nat} (hj : j < X.length) (hx : x < g.Names.length) (hi : i < 64) (y i' k : Nat) :
  NS (setN X j x (ior .u64 (rd (rd X (j : Int)).names (x : Int)) (ishl .u64 1 (i : Int)))) (y : Int) i' k ↔ NS X (y : Int) i' k ∨ (k = j ∧ y = x ∧ i' = i) := by
 unfold NS setN
 rw [rd_set']
 by_cases e : j = k
 ·subst e
  rw [if_pos ⟨rfl, hj⟩]
  show bit (rd (List.set _ _ _) _) _ = true ↔ _
  rw [rd_set']
  by_cases e2 : x = y
  ·subst e2
   rw [if_pos ⟨rfl, by rw [h.n1 j hj]; exact hx⟩, or_bit (h.n2 j hj x hx) hi]
   simp
  ·rw [if_neg (fun z => e2 z.1)]
   exact ⟨.inl, fun z => z.elim id fun y => (e2 y.2.1.symm).elim⟩
 ·rw [if_neg (fun z => e z.1)]
  exact ⟨.inl, fun z => z.elim id fun y => (e y.1.symm).elim⟩
def RC (X : List Q1) (g : Grammar) (w : List Int) (r c m i j : Nat) : Prop :=
 (m = 0 ∧ i = j) ∨ ∃ m', m = m' + 1 ∧ ∃ k, i ≤ k ∧ k ≤ j ∧ BS X r c m' i k ∧ SymS (NS X) (wf w) (rd (sq g r c) (m' : Int)) k j
theorem reaches_spec (K : Nat) (hK : 200000 ≤ K) (g : Grammar) (xs w : List Int) (X : List Q1) (hx : CX g xs w) (h : Shp g X) (hl : X.length = w.length + 1) (r c m i : Nat) (hr : r < g.Rules.length) (hc : c < nc g r) (hm : m ≤ (sq g r c).length) (hi : i ≤ w.length) :
  ∃ b, V5 K ⟨g, xs, w, X⟩ r c m i = some b ∧ (b = true ↔ RC X g w r c m i w.length) := by
 have q1 := hx.wl
 have q2 := hx.rl
 have q3 := hx.cl hr
 have q4 := hx.ql hr hc
 unfold V5
 dsimp only
 cases m with
 | zero =>
  rw [if_pos (show ((0 : Nat) : Int) = 0 from rfl)]
  refine ⟨_, rfl, ?_⟩
  simp only [decide_eq_true_eq, RC]
  constructor
  ·intro e; exact .inl ⟨trivial, by omega⟩
  ·rintro (⟨_, e⟩ | ⟨m', e, _⟩)
   ·rw [e]
   ·omega
 | succ m =>
  have em : IntKind.wrap .i64 (((m + 1 : Nat) : Int) - 1) = (m : Int) := by rw [wr (by omega) (by omega)]; omega
  have hc' : (c : Int) < ((rd g.Rules (r : Int)).Conj.length : Int) := by have : c < (rd g.Rules (r : Int)).Conj.length := hc; omega
  have hm' : (m : Int) < ((rd (rd g.Rules (r : Int)).Conj (c : Int)).Seq.length : Int) := by have : m < (rd (rd g.Rules (r : Int)).Conj (c : Int)).Seq.length := hm; omega
  rw [if_neg (by omega)]
  simp only [em]
  rw [if_pos (by omega), if_pos (by omega), if_pos (by omega), if_pos hc', if_pos (by omega), if_pos hm']
  have hRC : RC X g w r c (m + 1) i w.length ↔ ∃ k, i ≤ k ∧ k ≤ w.length ∧ BS X r c m i k ∧ SymS (NS X) (wf w) (rd (sq g r c) (m : Int)) k w.length := by
   constructor
   ·rintro (⟨e, _⟩ | ⟨m', e, hh⟩)
    ·omega
    ·have : m' = m := by omega
     subst this; exact hh
   ·intro hh; exact .inr ⟨m, rfl, hh⟩
  rw [hRC]
  by_cases hn : (rd (sq g r c) (m : Int)).Name < 0
  ·rw [if_pos hn]
   have hS : ∀ k, SymS (NS X) (wf w) (rd (sq g r c) (m : Int)) k w.length ↔ (w.length = k + 1 ∧ (rd (sq g r c) (m : Int)).Lo ≤ wf w k ∧ wf w k ≤ (rd (sq g r c) (m : Int)).Hi) := fun k => by unfold SymS; rw [if_neg (by omega)]
   by_cases hlt : (i : Int) < (w.length : Int)
   ·have ew : IntKind.wrap .i64 ((w.length : Int) - 1) = ((w.length - 1 : Nat) : Int) := by rw [wr (by omega) (by omega)]; omega
    have hb := hx.wb (w.length - 1) (by omega)
    rw [if_pos hlt]
    simp only [ew]
    rw [if_pos (by omega), if_pos (by omega), wr (by omega) (by omega)]
    by_cases h1 : (rd (sq g r c) (m : Int)).Lo ≤ rd w ((w.length - 1 : Nat) : Int)
    ·rw [if_pos h1]
     by_cases h2 : rd w ((w.length - 1 : Nat) : Int) ≤ (rd (sq g r c) (m : Int)).Hi
     ·have s1 := h.b1 (w.length - 1) (by omega)
      have s2 := h.b2 (w.length - 1) (by omega) r hr
      have s3 := h.b3 (w.length - 1) (by omega) r hr c hc
      unfold sg at s3
      rw [if_pos h2, if_pos (by omega), if_pos (by rw [s1]; omega), if_pos (by rw [s2]; omega), if_pos (by rw [s3]; omega), if_pos (by omega)]
      rw [Option.bind_some]
      refine ⟨_, rfl, ?_⟩
      have s4 := h.b4 (w.length - 1) (by omega) r hr c hc m (by omega)
      unfold sg at s4
      rw [shr1 s4 i, decide_eq_true_eq, iff1 (p := True) (by decide)]
      constructor
      ·intro hbit
       exact ⟨w.length - 1, by omega, by omega, hbit, (hS _).2 ⟨by omega, h1, h2⟩⟩
      ·rintro ⟨k, k1, k2, k3, k4⟩
       have := ((hS k).1 k4).1
       have ek : k = w.length - 1 := by omega
       subst ek; exact k3
     ·rw [if_neg h2, Option.bind_some]
      refine ⟨_, rfl, ?_⟩
      constructor
      ·intro e; cases e
      ·rintro ⟨k, k1, k2, k3, k4⟩
       obtain ⟨p1, p2, p3⟩ := (hS k).1 k4
       have ek : k = w.length - 1 := by omega
       subst ek; exact (h2 p3).elim
    ·rw [if_neg h1, Option.bind_some]
     refine ⟨_, rfl, ?_⟩
     constructor
     ·intro e; cases e
     ·rintro ⟨k, k1, k2, k3, k4⟩
      obtain ⟨p1, p2, p3⟩ := (hS k).1 k4
      have ek : k = w.length - 1 := by omega
      subst ek; exact (h1 p2).elim
   ·rw [if_neg hlt, Option.bind_some]
    refine ⟨_, rfl, ?_⟩
    constructor
    ·intro e; cases e
    ·rintro ⟨k, k1, k2, k3, k4⟩
     have := ((hS k).1 k4).1
     omega
  ·rw [if_neg hn]
   have hsy := hx.sy hr hc (show m < (sq g r c).length by omega)
   have hS : ∀ k, SymS (NS X) (wf w) (rd (sq g r c) (m : Int)) k w.length ↔ NS X (rd (sq g r c) (m : Int)).Name k w.length := fun k => by unfold SymS; rw [if_pos (by omega)]
   obtain ⟨s, es⟩ : ∃ s : Nat, (rd (sq g r c) (m : Int)).Name = (s : Int) := ⟨(rd (sq g r c) (m : Int)).Name.toNat, by omega⟩
   have key := rounds (σ := Int) (ρ := Int ⊕ Bool) (L := V5.l0 K ⟨g, xs, w, X⟩ r c ((m + 1 : Nat) : Int) i)
    (fun k => ∃ q : Nat, k = (q : Int) ∧ i ≤ q ∧ q ≤ w.length + 1 ∧ ∀ k : Nat, i ≤ k → k < q → ¬ (BS X r c m i k ∧ SymS (NS X) (wf w) (rd (sq g r c) (m : Int)) k w.length)) (fun k => (w.length + 1 - k.toNat))
    (fun ρ => (ρ = .inr true ∧ ∃ k, i ≤ k ∧ k ≤ w.length ∧ BS X r c m i k ∧ SymS (NS X) (wf w) (rd (sq g r c) (m : Int)) k w.length) ∨ (∃ q, ρ = .inl q) ∧ ¬ ∃ k, i ≤ k ∧ k ≤ w.length ∧ BS X r c m i k ∧ SymS (NS X) (wf w) (rd (sq g r c) (m : Int)) k w.length) ?_ K (i : Int) ⟨i, rfl, Nat.le_refl _, by omega, fun k h1 h2 => by omega⟩ (by omega)
   ·obtain ⟨ρ, e1, hρ⟩ := key
    rw [e1]
    rcases hρ with ⟨e, hh⟩ | ⟨⟨q, e⟩, hh⟩
    ·subst e
     exact ⟨true, rfl, by simpa using hh⟩
    ·subst e
     exact ⟨false, rfl, ⟨fun e => (by cases e), fun e => (hh e).elim⟩⟩
   ·rintro k mm ⟨q, rfl, k1, k2, k3⟩
    simp only [V5.l0]
    by_cases hq : (q : Int) ≤ (w.length : Int)
    ·have s1 := h.b1 q (by omega)
     have s2 := h.b2 q (by omega) r hr
     have s3 := h.b3 q (by omega) r hr c hc
     have s4 := h.b4 q (by omega) r hr c hc m (by omega)
     unfold sg at s3 s4
     have n1 := h.n1 w.length (by omega)
     have n2 := h.n2 w.length (by omega) s (by omega)
     have e1 : IntKind.wrap .i64 ((q : Int) + 1) = ((q + 1 : Nat) : Int) := by rw [wr (by omega) (by omega)]; omega
     simp only [em, e1]
     rw [if_pos hq, if_pos (by omega), if_pos (by omega), if_pos (by rw [s1]; omega), if_pos (by rw [s2]; omega), if_pos (by rw [s3]; omega), if_pos (by omega), shr1 s4 i]
     have no : ∀ p : Prop, (¬ (BS X r c m i q ∧ SymS (NS X) (wf w) (rd (sq g r c) (m : Int)) q w.length)) → ∃ s', (∃ q' : Nat, s' = (q' : Int) ∧ i ≤ q' ∧ q' ≤ w.length + 1 ∧ ∀ k : Nat, i ≤ k → k < q' → ¬ (BS X r c m i k ∧ SymS (NS X) (wf w) (rd (sq g r c) (m : Int)) k w.length)) ∧ (w.length + 1 - s'.toNat) < (w.length + 1 - (q : Int).toNat) ∧ V5.l0 K ⟨g, xs, w, X⟩ r c ((m + 1 : Nat) : Int) i mm ((q + 1 : Nat) : Int) = V5.l0 K ⟨g, xs, w, X⟩ r c ((m + 1 : Nat) : Int) i mm s' := fun _ hno => by
      refine ⟨((q + 1 : Nat) : Int), ⟨q + 1, rfl, by omega, by omega, fun k h1 h2 => ?_⟩, by omega, rfl⟩
      by_cases ek : k = q
      ·subst ek; exact hno
      ·exact k3 k h1 (by omega)
     by_cases hb : bit (rd (sg X q r c) (m : Int)) i = true
     ·have hb' := hb
      unfold sg at hb'
      rw [if_pos hb', if_pos rfl, if_pos (by omega), if_pos (by show 0 ≤ (rd (sq g r c) (m : Int)).Name; omega), if_pos (by show (rd (sq g r c) (m : Int)).Name < _; rw [n1]; omega)]
      have ebit : (iand .u64 (ishr .u64 (rd ((rd X (w.length : Int)).names) ((rd ((rd ((rd g.Rules (r : Int)).Conj) (c : Int)).Seq) (m : Int)).Name)) (q : Int)) 1) = if bit (rd ((rd X (w.length : Int)).names) (rd (sq g r c) (m : Int)).Name) q = true then 1 else 0 := by
       show (iand .u64 (ishr .u64 (rd ((rd X (w.length : Int)).names) (rd (sq g r c) (m : Int)).Name) (q : Int)) 1) = _
       rw [es]; exact shr1 n2 q
      rw [ebit]
      by_cases hb2 : bit (rd ((rd X (w.length : Int)).names) (rd (sq g r c) (m : Int)).Name) q = true
      ·rw [if_pos hb2, if_pos rfl]
       exact .inl ⟨_, rfl, .inl ⟨rfl, q, k1, by omega, hb, (hS q).2 hb2⟩⟩
      ·rw [if_neg hb2, if_neg (by decide)]
       exact .inr (no True fun hh => hb2 ((hS q).1 hh.2))
     ·have hb' := hb
      unfold sg at hb'
      rw [if_neg hb', if_neg (by decide)]
      exact .inr (no True fun hh => hb hh.1)
    ·rw [if_neg hq]
     refine .inl ⟨_, rfl, .inr ⟨⟨_, rfl⟩, ?_⟩⟩
     rintro ⟨k, h1, h2, h3, h4⟩
     exact k3 k h1 (by omega) ⟨h3, h4⟩
end Go.Proofs.YtpjhcllohagjoaaGreat

namespace Go.Proofs.YtpjhcllohagjoaaGreat
open S
set_option linter.unusedVariables false
set_option linter.unusedSimpArgs false
set_option maxRecDepth 10000
theorem RC_seq {g : Grammar} {X : List Q1} {w : List Int} {r c m i j : Nat} (hm : m ≤ (sq g r c).length) (hij : i ≤ j) (hp : ∀ m', m = m' + 1 → ∀ k, i ≤ k → k ≤ j → (BS X r c m' i k ↔ SeqS (NS X) (wf w) ((sq g r c).take m') i k)) : RC X g w r c m i j ↔ SeqS (NS X) (wf w) ((sq g r c).take m) i j := by
 cases m with
 | zero =>
  constructor
  ·rintro (⟨_, e⟩ | ⟨m', e, _⟩)
   ·exact e
   ·omega
  ·intro e; exact .inl ⟨rfl, e⟩
 | succ m =>
  rw [take_succ_rd (by omega), SeqS_snoc]
  constructor
  ·rintro (⟨e, _⟩ | ⟨m', e, k, h1, h2, h3, h4⟩)
   ·omega
   ·have : m' = m := by omega
    subst this
    exact ⟨k, h1, h2, (hp m' rfl k h1 h2).1 h3, h4⟩
  ·rintro ⟨k, h1, h2, h3, h4⟩
   exact .inr ⟨m, rfl, k, h1, h2, (hp m rfl k h1 h2).2 h3, h4⟩
structure Fr2 (X X' : List Q1) (j i : Nat) (Q : Nat → Nat → Prop) : Prop where
 len : X'.length = X.length
 nm : NS X' = NS X
 bs : ∀ r c m i' k, ¬ (k = j ∧ i' = i ∧ Q r c) → (BS X' r c m i' k ↔ BS X r c m i' k)
abbrev Full (g : Grammar) (X : List Q1) (N : Sp) (w : List Int) (i j r c : Nat) : Prop := ∀ m, m ≤ (sq g r c).length → (BS X r c m i j ↔ SeqS N (wf w) ((sq g r c).take m) i j)
abbrev Snd (g : Grammar) (X : List Q1) (N : Sp) (w : List Int) (i j r c : Nat) : Prop := ∀ m, m ≤ (sq g r c).length → BS X r c m i j → SeqS N (wf w) ((sq g r c).take m) i j
structure Acc (g : Grammar) (w : List Int) (i : Nat) (X X' : List Q1) (b : Bool) (Q : Nat → Nat → Prop) : Prop where
 shp : Shp g X'
 fr : Fr2 X X' w.length i Q
 full : ∀ r c, Q r c → Full g X' (NS X) w i w.length r c
 same : b = false → X' = X
 still : (∀ r c, Q r c → Full g X (NS X) w i w.length r c) → b = false
theorem Acc.refl {g : Grammar} {w : List Int} {i : Nat} {X : List Q1} (h : Shp g X) : Acc g w i X X false fun _ _ => False :=
 ⟨h, ⟨rfl, rfl, fun _ _ _ _ _ _ => Iff.rfl⟩, fun _ _ x => x.elim, fun _ => rfl, fun _ => rfl⟩
theorem Acc.step {g : Grammar} {w : List Int} {i : Nat} {X X1 X2 : List Q1} {b1 b2 : Bool} {Q : Nat → Nat → Prop} {r c : Nat} (h1 : Acc g w i X X1 b1 Q) (h2 : Acc g w i X1 X2 b2 fun r' c' => r' = r ∧ c' = c) (hn : ¬ Q r c) : Acc g w i X X2 (b1 || b2) fun r' c' => Q r' c' ∨ (r' = r ∧ c' = c) := by
 have e : NS X1 = NS X := h1.fr.nm
 refine ⟨h2.shp, ⟨h2.fr.len.trans h1.fr.len, h2.fr.nm.trans e, fun r' c' m i' k hh => ?_⟩, fun r' c' hq m hm => ?_, fun hb => ?_, fun hf => ?_⟩
 ·rw [h2.fr.bs r' c' m i' k (fun x => hh ⟨x.1, x.2.1, .inr x.2.2⟩), h1.fr.bs r' c' m i' k (fun x => hh ⟨x.1, x.2.1, .inl x.2.2⟩)]
 ·rcases hq with hq | hq
  ·rw [h2.fr.bs r' c' m i w.length (fun x => hn (x.2.2.1 ▸ x.2.2.2 ▸ hq))]
   exact h1.full r' c' hq m hm
  ·rw [← e]; exact h2.full r' c' hq m hm
 ·cases b1 <;> cases b2 <;> simp at hb
  rw [h2.same rfl, h1.same rfl]
 ·have e1 := h1.still fun r' c' hq => hf r' c' (.inl hq)
  have e2 := h1.same e1
  subst e2
  rw [e1, h2.still fun r' c' hq => hf r' c' (.inr hq)]; rfl
theorem Acc.congr {g : Grammar} {w : List Int} {i : Nat} {X X' : List Q1} {b : Bool} {Q Q' : Nat → Nat → Prop} (h : Acc g w i X X' b Q) (e : ∀ r c, Q r c ↔ Q' r c) : Acc g w i X X' b Q' := by
 have : Q = Q' := by funext r c; exact propext (e r c)
 rw [← this]; exact h
theorem conj_spec (K : Nat) (hK : 200000 ≤ K) (g : Grammar) (xs w : List Int) (X : List Q1) (hx : CX g xs w) (h : Shp g X) (hl : X.length = w.length + 1) (r c i : Nat) (hr : r < g.Rules.length) (hc : c < nc g r) (hi : i ≤ w.length)
  (hpast : ∀ k, i ≤ k → k < w.length → Full g X (NS X) w i k r c) (hsnd : Snd g X (NS X) w i w.length r c) :
  ∃ b X', j7 K ⟨g, xs, w, X⟩ r c i = some (b, ⟨g, xs, w, X'⟩) ∧ Acc g w i X X' b fun r' c' => r' = r ∧ c' = c := by
 have q1 := hx.wl
 have q2 := hx.rl
 have q3 := hx.cl hr
 have q4 := hx.ql hr hc
 have s1 := h.b1 w.length (by omega)
 have s2 := h.b2 w.length (by omega) r hr
 have s3 := h.b3 w.length (by omega) r hr c hc
 have s3' := s3
 unfold sg at s3'
 unfold j7
 rw [if_pos (by show (w.length : Int) < X.length; omega), if_pos (by omega), if_pos (by show (r : Int) < _; rw [s1]; omega), if_pos (by omega), if_pos (by show (c : Int) < _; rw [s2]; omega)]
 have key := rounds (σ := List Q1 × Bool × Int) (ρ := List Q1 × Bool × Int) (L := j7.l0 K ⟨g, xs, w, X⟩ r c i)
  (fun s => ∃ q : Nat, s.2.2 = (q : Int) ∧ q ≤ (sq g r c).length + 1 ∧ Shp g s.1 ∧ Fr2 X s.1 w.length i (fun r' c' => r' = r ∧ c' = c) ∧ (∀ m, m < q → (BS s.1 r c m i w.length ↔ SeqS (NS X) (wf w) ((sq g r c).take m) i w.length)) ∧
   (∀ m, q ≤ m → (BS s.1 r c m i w.length ↔ BS X r c m i w.length)) ∧ (s.2.1 = false → s.1 = X) ∧ ((∀ m, m ≤ (sq g r c).length → (BS X r c m i w.length ↔ SeqS (NS X) (wf w) ((sq g r c).take m) i w.length)) → s.2.1 = false))
  (fun s => (sq g r c).length + 1 - s.2.2.toNat)
  (fun ρ => Acc g w i X ρ.1 ρ.2.1 fun r' c' => r' = r ∧ c' = c) ?_ K (X, false, 0) ⟨0, rfl, by omega, h, ⟨rfl, rfl, fun _ _ _ _ _ _ => Iff.rfl⟩, fun m hm => by omega, fun m _ => Iff.rfl, fun _ => rfl, fun _ => rfl⟩ (by simp; omega)
 ·obtain ⟨⟨Y, b, t⟩, e1, hρ⟩ := key
  rw [e1]
  exact ⟨b, Y, rfl, hρ⟩
 ·rintro ⟨Y, b, t⟩ mm ⟨q, rfl, k1, k2, k3, k4, k5, k6, k7⟩
  simp only at k2 k3 k4 k5 k6 k7
  have yl : Y.length = w.length + 1 := k3.len.trans hl
  have y1 := k2.b1 w.length (by omega)
  have y2 := k2.b2 w.length (by omega) r hr
  have y3 := k2.b3 w.length (by omega) r hr c hc
  have y3' := y3
  unfold sg at y3'
  simp only [j7.l0]
  by_cases hq : q ≤ (sq g r c).length
  ·have y4 := k2.b4 w.length (by omega) r hr c hc q hq
   have y4' := y4
   unfold sg at y4'
   have e1 : IntKind.wrap .i64 ((q : Int) + 1) = ((q + 1 : Nat) : Int) := by rw [wr (by omega) (by omega)]; omega
   rw [if_pos (by show (q : Int) < _; rw [s3']; omega), if_pos (by show (w.length : Int) < _; omega), if_pos (by show (r : Int) < _; rw [y1]; omega), if_pos (by show (c : Int) < _; rw [y2]; omega), if_pos (by omega), if_pos (by show (q : Int) < _; rw [y3']; omega), if_pos (by omega)]
   simp only [e1]
   rw [shr1 y4' i]
   have hseq : RC Y g w r c q i w.length ↔ SeqS (NS X) (wf w) ((sq g r c).take q) i w.length := by
    rw [← k3.nm]
    refine RC_seq hq hi fun m' em k g1 g2 => ?_
    rw [k3.nm]
    by_cases ek : k = w.length
    ·subst ek; exact k4 m' (by omega)
    ·rw [k3.bs r c m' i k (fun x => ek x.1)]; exact hpast k g1 (by omega) m' (by omega)
   by_cases hb : bit (rd (sg Y w.length r c) (q : Int)) i = true
   ·have hb' := hb
    unfold sg at hb'
    rw [if_pos hb', if_neg (by decide)]
    refine .inr ⟨(Y, b, ((q + 1 : Nat) : Int)), ⟨q + 1, rfl, by omega, k2, k3, fun m hm => ?_, fun m hm => k5 m (by omega), k6, k7⟩, by simp; omega, rfl⟩
    by_cases em : m = q
    ·subst em
     exact ⟨fun _ => hsnd m hq ((k5 m (Nat.le_refl _)).1 hb), fun _ => hb⟩
    ·exact k4 m (by omega)
   ·have hb' := hb
    unfold sg at hb'
    rw [if_neg hb', if_pos rfl]
    obtain ⟨b2, er, hb2⟩ := reaches_spec K hK g xs w Y hx k2 yl r c q i hr hc hq hi
    erw [er, Option.bind_some]
    have hi64 : i < 64 := by omega
    cases b2 with
    | true =>
     rw [if_pos rfl]
     have hS := hseq.1 (hb2.1 rfl)
     have hBS := setB_BS k2 (j := w.length) (m := q) (i := i) (by omega) hr hc hq hi64
     refine .inr ⟨(setB Y w.length r c q (ior .u64 (rd (sg Y w.length r c) (q : Int)) (ishl .u64 1 (i : Int))), true, ((q + 1 : Nat) : Int)), ⟨q + 1, rfl, by omega, setB_shp k2 (by omega) hr hc (or_ok y4 hi64), ⟨(setB_len ..).trans k3.len, (setB_NS ..).trans k3.nm, fun r' c' m' i' k hh => ?_⟩, fun m hm => ?_, fun m hm => ?_, fun e => (by cases e), fun hf => ?_⟩, by simp; omega, rfl⟩
     ·rw [hBS, k3.bs r' c' m' i' k hh]
      exact ⟨fun x => x.elim id fun y => (hh ⟨y.1, y.2.2.2.2, y.2.1, y.2.2.1⟩).elim, .inl⟩
     ·rw [hBS]
      by_cases em : m = q
      ·subst em; exact ⟨fun _ => hS, fun _ => .inr ⟨rfl, rfl, rfl, rfl, rfl⟩⟩
      ·rw [k4 m (by omega)]
       exact ⟨fun x => x.elim id fun y => (em y.2.2.2.1).elim, .inl⟩
     ·rw [hBS, k5 m (by omega)]
      exact ⟨fun x => x.elim id fun y => (by have := y.2.2.2.1; omega), .inl⟩
     ·exact (hb ((k5 q (Nat.le_refl _)).2 ((hf q hq).2 hS))).elim
    | false =>
     rw [if_neg (by decide)]
     have hS : ¬ SeqS (NS X) (wf w) ((sq g r c).take q) i w.length := fun hs => by cases hb2.2 (hseq.2 hs)
     refine .inr ⟨(Y, b, ((q + 1 : Nat) : Int)), ⟨q + 1, rfl, by omega, k2, k3, fun m hm => ?_, fun m hm => k5 m (by omega), k6, k7⟩, by simp; omega, rfl⟩
     by_cases em : m = q
     ·subst em
      exact ⟨fun hh => (hb hh).elim, fun hh => (hS hh).elim⟩
     ·exact k4 m (by omega)
  ·rw [if_neg (by show ¬ (q : Int) < _; rw [s3']; omega)]
   refine .inl ⟨_, rfl, k2, k3, fun r' c' hq' m hm => ?_, k6, fun hf => k7 (hf r c ⟨rfl, rfl⟩)⟩
   obtain ⟨rfl, rfl⟩ := hq'
   exact k4 m (by omega)
theorem pass_l1 (K : Nat) (hK : 200000 ≤ K) (g : Grammar) (xs w : List Int) (X : List Q1) (hx : CX g xs w) (hl : X.length = w.length + 1) (r i : Nat) (neg : Bool) (hr : r < g.Rules.length) (hi : i ≤ w.length) (Q0 : Nat → Nat → Prop) (hQ0 : ∀ c, ¬ Q0 r c)
  (hpast : ∀ c, c < nc g r → (rd (rd g.Rules (r : Int)).Conj (c : Int)).Neg = neg → ∀ k, i ≤ k → k < w.length → Full g X (NS X) w i k r c) (hsnd : ∀ c, c < nc g r → (rd (rd g.Rules (r : Int)).Conj (c : Int)).Neg = neg → Snd g X (NS X) w i w.length r c)
  (e : J0) (he : e.g = g) (X0 : List Q1) (b0 : Bool) (h0 : Acc g w i X X0 b0 Q0) :
  ∃ X' b t, Q4.l1 K i neg e r K (⟨g, xs, w, X0⟩, b0, 0) = some (⟨g, xs, w, X'⟩, b, t) ∧ Acc g w i X X' b fun r' c' => Q0 r' c' ∨ (r' = r ∧ c' < nc g r ∧ (rd (rd g.Rules (r : Int)).Conj (c' : Int)).Neg = neg) := by
 have q2 := hx.rl
 have q3 := hx.cl hr
 have key := rounds (σ := J0 × Bool × Int) (ρ := J0 × Bool × Int) (L := Q4.l1 K i neg e r)
  (fun s => ∃ (q : Nat) (Y : List Q1), s.2.2 = (q : Int) ∧ s.1 = ⟨g, xs, w, Y⟩ ∧ q ≤ nc g r ∧ Acc g w i X Y s.2.1 fun r' c' => Q0 r' c' ∨ (r' = r ∧ c' < q ∧ (rd (rd g.Rules (r : Int)).Conj (c' : Int)).Neg = neg))
  (fun s => nc g r - s.2.2.toNat)
  (fun ρ => ∃ Y, ρ.1 = ⟨g, xs, w, Y⟩ ∧ Acc g w i X Y ρ.2.1 fun r' c' => Q0 r' c' ∨ (r' = r ∧ c' < nc g r ∧ (rd (rd g.Rules (r : Int)).Conj (c' : Int)).Neg = neg)) ?_ K (⟨g, xs, w, X0⟩, b0, 0) ⟨0, X0, rfl, rfl, Nat.zero_le _, h0.congr fun r' c' => ⟨.inl, fun x => x.elim id fun y => by omega⟩⟩ (by simp; omega)
 ·obtain ⟨⟨E, b, t⟩, e1, Y, e2, hρ⟩ := key
  simp only at e2; subst e2
  exact ⟨Y, b, t, e1, hρ⟩
 ·rintro ⟨E, b, t⟩ mm ⟨q, Y, rfl, e2, k1, k2⟩
  simp only at e2 k2; subst e2
  simp only [Q4.l1]
  rw [he]
  by_cases hq : q < nc g r
  ·have e1 : IntKind.wrap .i64 ((q : Int) + 1) = ((q + 1 : Nat) : Int) := by rw [wr (by omega) (by omega)]; omega
   rw [if_pos (by show (q : Int) < ((nc g r : Nat) : Int); omega), if_pos (by show (r : Int) < (g.Rules.length : Int); omega), if_pos (by omega), if_pos (by show (q : Int) < ((nc g r : Nat) : Int); omega)]
   simp only [e1]
   by_cases hn : (rd (rd g.Rules (r : Int)).Conj (q : Int)).Neg = neg
   ·rw [if_pos hn]
    have hno : ¬ (Q0 r q ∨ (r = r ∧ q < q ∧ (rd (rd g.Rules (r : Int)).Conj (q : Int)).Neg = neg)) := fun x => x.elim (hQ0 q) fun y => by omega
    have hbs : ∀ m k, (BS Y r q m i k ↔ BS X r q m i k) := fun m k => k2.fr.bs r q m i k fun x => hno x.2.2
    obtain ⟨b2, Z, ec, hc2⟩ := conj_spec K hK g xs w Y hx k2.shp (k2.fr.len.trans hl) r q i hr hq hi (fun k g1 g2 m hm => by rw [hbs, k2.fr.nm]; exact hpast q hq hn k g1 g2 m hm) (fun m hm hh => by rw [k2.fr.nm]; exact hsnd q hq hn m hm ((hbs m w.length).1 hh))
    rw [ec, Option.bind_some]
    have ha := Acc.step k2 hc2 hno
    have ha' : Acc g w i X Z (b || b2) fun r' c' => Q0 r' c' ∨ (r' = r ∧ c' < q + 1 ∧ (rd (rd g.Rules (r : Int)).Conj (c' : Int)).Neg = neg) := ha.congr fun r' c' => by
     constructor
     ·rintro ((x | ⟨x1, x2, x3⟩) | ⟨x1, x2⟩)
      ·exact .inl x
      ·exact .inr ⟨x1, by omega, x3⟩
      ·exact .inr ⟨x1, by omega, by rw [x2]; exact hn⟩
     ·rintro (x | ⟨x1, x2, x3⟩)
      ·exact .inl (.inl x)
      ·by_cases ec' : c' = q
       ·exact .inr ⟨x1, ec'⟩
       ·exact .inl (.inr ⟨x1, by omega, x3⟩)
    cases b2 with
    | true =>
     rw [if_pos rfl]
     exact .inr ⟨(⟨g, xs, w, Z⟩, true, ((q + 1 : Nat) : Int)), ⟨q + 1, Z, rfl, rfl, hq, by simpa using ha'⟩, by simp; omega, rfl⟩
    | false =>
     rw [if_neg (by simp)]
     exact .inr ⟨(⟨g, xs, w, Z⟩, b, ((q + 1 : Nat) : Int)), ⟨q + 1, Z, rfl, rfl, hq, by simpa using ha'⟩, by simp; omega, rfl⟩
   ·rw [if_neg hn]
    exact .inr ⟨(⟨g, xs, w, Y⟩, b, ((q + 1 : Nat) : Int)), ⟨q + 1, Y, rfl, rfl, hq, k2.congr fun r' c' => ⟨fun x => x.imp id fun y => ⟨y.1, by omega, y.2.2⟩, fun x => x.imp id fun y => ⟨y.1, by
     by_cases ec : c' = q
     ·rw [ec] at y; exact (hn y.2.2).elim
     ·omega, y.2.2⟩⟩⟩, by simp; omega, rfl⟩
  ·rw [if_neg (by show ¬ (q : Int) < ((nc g r : Nat) : Int); omega)]
   have : q = nc g r := by omega
   subst this
   exact .inl ⟨_, rfl, Y, rfl, k2⟩
def InL (g : Grammar) (xs : List Int) (t : Int) (neg : Bool) (r c : Nat) : Prop := r < g.Rules.length ∧ c < nc g r ∧ rd xs (rd g.Rules (r : Int)).Head = t ∧ (rd (rd g.Rules (r : Int)).Conj (c : Int)).Neg = neg
theorem pass_spec (K : Nat) (hK : 200000 ≤ K) (g : Grammar) (xs w : List Int) (X : List Q1) (hx : CX g xs w) (h : Shp g X) (hl : X.length = w.length + 1) (t : Int) (i : Nat) (neg : Bool) (hi : i ≤ w.length)
  (hpast : ∀ r c, InL g xs t neg r c → ∀ k, i ≤ k → k < w.length → Full g X (NS X) w i k r c) (hsnd : ∀ r c, InL g xs t neg r c → Snd g X (NS X) w i w.length r c) :
  ∃ b X', Q4 K ⟨g, xs, w, X⟩ t i neg = some (b, ⟨g, xs, w, X'⟩) ∧ Acc g w i X X' b (InL g xs t neg) := by
 have q2 := hx.rl
 have key := rounds (σ := J0 × Bool × Int) (ρ := J0 × Bool × Int) (L := Q4.l0 K ⟨g, xs, w, X⟩ t i neg)
  (fun s => ∃ (q : Nat) (Y : List Q1), s.2.2 = (q : Int) ∧ s.1 = ⟨g, xs, w, Y⟩ ∧ q ≤ g.Rules.length ∧ Acc g w i X Y s.2.1 fun r' c' => r' < q ∧ InL g xs t neg r' c')
  (fun s => g.Rules.length - s.2.2.toNat)
  (fun ρ => ∃ Y, ρ.1 = ⟨g, xs, w, Y⟩ ∧ Acc g w i X Y ρ.2.1 (InL g xs t neg)) ?_ K (⟨g, xs, w, X⟩, false, 0) ⟨0, X, rfl, rfl, Nat.zero_le _, (Acc.refl h).congr fun r' c' => ⟨fun x => x.elim, fun x => by omega⟩⟩ (by simp; omega)
 ·obtain ⟨⟨E, b, u⟩, e1, Y, e2, hρ⟩ := key
  simp only at e2; subst e2
  unfold Q4
  rw [e1]
  exact ⟨b, Y, rfl, hρ⟩
 ·rintro ⟨E, b, u⟩ mm ⟨q, Y, rfl, e2, k1, k2⟩
  simp only at e2 k2; subst e2
  simp only [Q4.l0]
  by_cases hq : q < g.Rules.length
  ·have e1 : IntKind.wrap .i64 ((q : Int) + 1) = ((q + 1 : Nat) : Int) := by rw [wr (by omega) (by omega)]; omega
   have hh := hx.hd hq
   have hxl := hx.xl
   rw [if_pos (by show (q : Int) < (g.Rules.length : Int); omega), if_pos (by omega), if_pos (by show (q : Int) < (g.Rules.length : Int); omega), if_pos hh.1, if_pos (by show _ < (xs.length : Int); rw [hxl]; exact hh.2)]
   simp only [e1]
   by_cases ht : rd xs (rd g.Rules (q : Int)).Head = t
   ·rw [if_neg (fun x => x ht)]
    obtain ⟨Z, b2, u2, ep, hp⟩ := pass_l1 K hK g xs w X hx hl q i neg hq hi (fun r' c' => r' < q ∧ InL g xs t neg r' c') (fun c x => by omega) (fun c hc hn => hpast q c ⟨hq, hc, ht, hn⟩) (fun c hc hn => hsnd q c ⟨hq, hc, ht, hn⟩) ⟨g, xs, w, Y⟩ rfl Y b k2
    rw [ep, Option.bind_some]
    refine .inr ⟨(⟨g, xs, w, Z⟩, b2, ((q + 1 : Nat) : Int)), ⟨q + 1, Z, rfl, rfl, hq, hp.congr fun r' c' => ?_⟩, by simp; omega, rfl⟩
    constructor
    ·rintro (x | ⟨x1, x2, x3⟩)
     ·exact ⟨by omega, x.2⟩
     ·subst x1; exact ⟨by omega, hq, x2, ht, x3⟩
    ·rintro ⟨x1, x2⟩
     by_cases er : r' = q
     ·subst er; exact .inr ⟨rfl, x2.2.1, x2.2.2.2⟩
     ·exact .inl ⟨by omega, x2⟩
   ·rw [if_pos ht]
    refine .inr ⟨(⟨g, xs, w, Y⟩, b, ((q + 1 : Nat) : Int)), ⟨q + 1, Y, rfl, rfl, hq, k2.congr fun r' c' => ?_⟩, by simp; omega, rfl⟩
    constructor
    ·rintro ⟨x1, x2⟩; exact ⟨by omega, x2⟩
    ·rintro ⟨x1, x2⟩
     refine ⟨?_, x2⟩
     by_cases er : r' = q
     ·subst er; exact (ht x2.2.2.1).elim
     ·omega
  ·rw [if_neg (by show ¬ (q : Int) < (g.Rules.length : Int); omega)]
   exact .inl ⟨_, rfl, Y, rfl, k2.congr fun r' c' => ⟨fun x => x.2, fun x => ⟨by have := x.1; omega, x⟩⟩⟩
end Go.Proofs.YtpjhcllohagjoaaGreat

namespace Go.Proofs.YtpjhcllohagjoaaGreat
open S
set_option linter.unusedVariables false
set_option linter.unusedSimpArgs false
set_option maxRecDepth 10000
def HB (g : Grammar) (X : List Q1) (i j r : Nat) : Prop := ∀ c, c < nc g r → ((rd (rd g.Rules (r : Int)).Conj (c : Int)).Neg = true ↔ ¬ BS X r c (sq g r c).length i j)
theorem holds_spec (K : Nat) (hK : 200000 ≤ K) (g : Grammar) (xs w : List Int) (X : List Q1) (hx : CX g xs w) (h : Shp g X) (hl : X.length = w.length + 1) (r i : Nat) (hr : r < g.Rules.length) (hi : i ≤ w.length) :
  ∃ b, m7 K ⟨g, xs, w, X⟩ r i = some b ∧ (b = true ↔ HB g X i w.length r) := by
 have q1 := hx.wl
 have q2 := hx.rl
 have q3 := hx.cl hr
 have s1 := h.b1 w.length (by omega)
 have s2 := h.b2 w.length (by omega) r hr
 unfold m7
 rw [if_pos (by omega), if_pos (by show (r : Int) < (g.Rules.length : Int); omega)]
 have key := rounds (σ := Int) (ρ := Int ⊕ Bool) (L := m7.l0 K ⟨g, xs, w, X⟩ r i)
  (fun k => ∃ q : Nat, k = (q : Int) ∧ q ≤ nc g r ∧ ∀ c, c < q → ((rd (rd g.Rules (r : Int)).Conj (c : Int)).Neg = true ↔ ¬ BS X r c (sq g r c).length i w.length)) (fun k => nc g r - k.toNat)
  (fun ρ => (ρ = .inr false ∧ ¬ HB g X i w.length r) ∨ (∃ q, ρ = .inl q) ∧ HB g X i w.length r) ?_ K 0 ⟨0, rfl, Nat.zero_le _, fun c hc => by omega⟩ (by simp; omega)
 ·obtain ⟨ρ, e1, hρ⟩ := key
  rw [e1]
  rcases hρ with ⟨e, hh⟩ | ⟨⟨q, e⟩, hh⟩
  ·subst e; exact ⟨false, rfl, ⟨fun e => (by cases e), fun e => (hh e).elim⟩⟩
  ·subst e; exact ⟨true, rfl, ⟨fun _ => hh, fun _ => rfl⟩⟩
 ·rintro k mm ⟨q, rfl, k1, k2⟩
  simp only [m7.l0]
  by_cases hq : q < nc g r
  ·have s3 := h.b3 w.length (by omega) r hr q hq
   have s4 := h.b4 w.length (by omega) r hr q hq (sq g r q).length (Nat.le_refl _)
   have q4 := hx.ql hr hq
   unfold sg at s3 s4
   have e0 : IntKind.wrap .i64 (((rd (rd (rd X (w.length : Int)).begun (r : Int)) (q : Int)).length : Int) - 1) = ((sq g r q).length : Int) := by rw [s3, wr (by omega) (by omega)]; omega
   have e1 : IntKind.wrap .i64 ((q : Int) + 1) = ((q + 1 : Nat) : Int) := by rw [wr (by omega) (by omega)]; omega
   rw [if_pos (by show (q : Int) < ((nc g r : Nat) : Int); omega), if_pos (by omega), if_pos (by show (w.length : Int) < (X.length : Int); omega), if_pos (by show (r : Int) < _; rw [s1]; omega), if_pos (by show (q : Int) < _; rw [s2]; omega)]
   simp only [e0, e1]
   rw [if_pos (by omega), if_pos (by rw [s3]; omega), if_pos (by omega), shr1 s4 i]
   have ed : decide ((if bit (rd (rd (rd (rd X (w.length : Int)).begun (r : Int)) (q : Int)) ((sq g r q).length : Int)) i = true then (1 : Int) else 0) = 1) = bit (rd (rd (rd (rd X (w.length : Int)).begun (r : Int)) (q : Int)) ((sq g r q).length : Int)) i := by
    cases bit (rd (rd (rd (rd X (w.length : Int)).begun (r : Int)) (q : Int)) ((sq g r q).length : Int)) i <;> simp
   rw [ed]
   have hbs : BS X r q (sq g r q).length i w.length ↔ bit (rd (rd (rd (rd X (w.length : Int)).begun (r : Int)) (q : Int)) ((sq g r q).length : Int)) i = true := Iff.rfl
   by_cases he : bit (rd (rd (rd (rd X (w.length : Int)).begun (r : Int)) (q : Int)) ((sq g r q).length : Int)) i = (rd (rd g.Rules (r : Int)).Conj (q : Int)).Neg
   ·rw [if_pos he]
    refine .inl ⟨_, rfl, .inl ⟨rfl, fun hh => ?_⟩⟩
    have := hh q hq
    rw [hbs, he] at this
    cases hn : (rd (rd g.Rules (r : Int)).Conj (q : Int)).Neg <;> rw [hn] at this <;> simp at this
   ·rw [if_neg he]
    refine .inr ⟨((q + 1 : Nat) : Int), ⟨q + 1, rfl, hq, fun c hc => ?_⟩, by omega, rfl⟩
    by_cases ec : c = q
    ·subst ec
     rw [hbs]
     cases hn : (rd (rd g.Rules (r : Int)).Conj (c : Int)).Neg <;> rw [hn] at he <;> simp at he ⊢ <;> exact he
    ·exact k2 c (by omega)
  ·rw [if_neg (by show ¬ (q : Int) < ((nc g r : Nat) : Int); omega)]
   have : q = nc g r := by omega
   subst this
   exact .inl ⟨_, rfl, .inr ⟨⟨_, rfl⟩, k2⟩⟩
def HA (g : Grammar) (xs : List Int) (X : List Q1) (t : Int) (i j q : Nat) (x : Int) : Prop := ∃ r, r < q ∧ (rd g.Rules (r : Int)).Head = x ∧ rd xs x = t ∧ HB g X i j r
theorem BS_sg {X Y : List Q1} (h : ∀ k r c, sg Y k r c = sg X k r c) (r c m i k : Nat) : BS Y r c m i k ↔ BS X r c m i k := by unfold BS; rw [h]
theorem HB_sg {g : Grammar} {X Y : List Q1} (h : ∀ k r c, sg Y k r c = sg X k r c) (i j r : Nat) : HB g Y i j r ↔ HB g X i j r := by
 unfold HB
 exact ⟨fun hh c hc => by rw [← BS_sg h]; exact hh c hc, fun hh c hc => by rw [BS_sg h]; exact hh c hc⟩
structure Hd (g : Grammar) (xs : List Int) (X X' : List Q1) (b : Bool) (t : Int) (i j q : Nat) : Prop where
 shp : Shp g X'
 len : X'.length = X.length
 sgs : ∀ k r c, sg X' k r c = sg X k r c
 ns : ∀ y i' k : Nat, NS X' (y : Int) i' k ↔ NS X (y : Int) i' k ∨ (k = j ∧ i' = i ∧ HA g xs X t i j q (y : Int))
 same : b = false → X' = X
 still : (∀ y : Nat, HA g xs X t i j q (y : Int) → NS X (y : Int) i j) → b = false
theorem heads_spec (K : Nat) (hK : 200000 ≤ K) (g : Grammar) (xs w : List Int) (X : List Q1) (hx : CX g xs w) (h : Shp g X) (hl : X.length = w.length + 1) (t : Int) (i : Nat) (hi : i ≤ w.length) :
  ∃ b X', y6 K ⟨g, xs, w, X⟩ t i = some (b, ⟨g, xs, w, X'⟩) ∧ Hd g xs X X' b t i w.length g.Rules.length := by
 have q1 := hx.wl
 have q2 := hx.rl
 unfold y6
 rw [if_pos (by show (w.length : Int) < (X.length : Int); omega)]
 have key := rounds (σ := List Q1 × Bool × Int) (ρ := List Q1 × Bool × Int) (L := y6.l0 K ⟨g, xs, w, X⟩ t i)
  (fun s => ∃ q : Nat, s.2.2 = (q : Int) ∧ q ≤ g.Rules.length ∧ Hd g xs X s.1 s.2.1 t i w.length q)
  (fun s => g.Rules.length - s.2.2.toNat)
  (fun ρ => Hd g xs X ρ.1 ρ.2.1 t i w.length g.Rules.length) ?_ K (X, false, 0) ⟨0, rfl, Nat.zero_le _, h, rfl, fun _ _ _ => rfl, fun y i' k => ⟨.inl, fun x => x.elim id fun ⟨_, _, r, hr, _⟩ => by omega⟩, fun _ => rfl, fun _ => rfl⟩ (by simp; omega)
 ·obtain ⟨⟨Y, b, u⟩, e1, hρ⟩ := key
  rw [e1]
  exact ⟨b, Y, rfl, hρ⟩
 ·rintro ⟨Y, b, u⟩ mm ⟨q, rfl, k1, k2⟩
  simp only at k2
  simp only [y6.l0]
  by_cases hq : q < g.Rules.length
  ·have e1 : IntKind.wrap .i64 ((q : Int) + 1) = ((q + 1 : Nat) : Int) := by rw [wr (by omega) (by omega)]; omega
   have hh := hx.hd hq
   have hxl := hx.xl
   have yl : Y.length = w.length + 1 := k2.len.trans hl
   obtain ⟨hd, ehd⟩ : ∃ hd : Nat, (rd g.Rules (q : Int)).Head = (hd : Int) := ⟨(rd g.Rules (q : Int)).Head.toNat, by omega⟩
   have hdl : hd < g.Names.length := by omega
   have n1 := k2.shp.n1 w.length (by omega)
   have n2 := k2.shp.n2 w.length (by omega) hd hdl
   have more : ∀ y : Int, HA g xs X t i w.length (q + 1) y ↔ HA g xs X t i w.length q y ∨ ((hd : Int) = y ∧ rd xs y = t ∧ HB g X i w.length q) := fun y => by
    constructor
    ·rintro ⟨r, h1, h2, h3, h4⟩
     by_cases er : r = q
     ·subst er; exact .inr ⟨ehd.symm.trans h2, h3, h4⟩
     ·exact .inl ⟨r, by omega, h2, h3, h4⟩
    ·rintro (⟨r, h1, h2, h3, h4⟩ | ⟨h2, h3, h4⟩)
     ·exact ⟨r, by omega, h2, h3, h4⟩
     ·exact ⟨q, by omega, ehd.trans h2, h3, h4⟩
   have skip : (∀ y : Nat, (hd : Int) = (y : Int) → rd xs (y : Int) = t → HB g X i w.length q → NS Y (y : Int) i w.length) → Hd g xs X Y b t i w.length (q + 1) := fun hs => ⟨k2.shp, k2.len, k2.sgs, fun y i' k => by
    rw [k2.ns, more]
    constructor
    ·rintro (x | ⟨x1, x2, x3⟩)
     ·exact .inl x
     ·exact .inr ⟨x1, x2, .inl x3⟩
    ·rintro (x | ⟨x1, x2, x3 | ⟨x3, x4, x5⟩⟩)
     ·exact .inl x
     ·exact .inr ⟨x1, x2, x3⟩
     ·subst x1 x2; exact (k2.ns _ _ _).1 (hs y x3 x4 x5), k2.same, fun hf => k2.still fun y hy => hf y ((more _).2 (.inl hy))⟩
   rw [if_pos (by show (q : Int) < (g.Rules.length : Int); omega), if_pos (by omega), if_pos hh.1, if_pos (by show _ < (xs.length : Int); rw [hxl]; exact hh.2)]
   simp only [e1, ehd]
   by_cases ht : rd xs (hd : Int) = t
   ·rw [if_pos ht, if_pos (by show (w.length : Int) < (Y.length : Int); omega), if_pos (by rw [n1]; omega), if_pos (by omega), shr1 n2 i]
    by_cases hb : bit (rd (rd Y (w.length : Int)).names (hd : Int)) i = true
    ·rw [if_pos hb, if_neg (by decide)]
     exact .inr ⟨(Y, b, ((q + 1 : Nat) : Int)), ⟨q + 1, rfl, hq, skip fun y ey _ _ => by rw [← ey]; exact hb⟩, by simp; omega, rfl⟩
    ·rw [if_neg hb, if_pos rfl]
     obtain ⟨b2, er, hb2⟩ := holds_spec K hK g xs w Y hx k2.shp yl q i hq hi
     rw [HB_sg k2.sgs] at hb2
     erw [er, Option.bind_some]
     cases b2 with
     | true =>
      rw [if_pos rfl]
      have hHB := hb2.1 rfl
      have hN := fun y i' k => setN_NS k2.shp (j := w.length) (x := hd) (i := i) (by omega) hdl (by omega) y i' k
      refine .inr ⟨(setN Y w.length hd (ior .u64 (rd (rd Y (w.length : Int)).names (hd : Int)) (ishl .u64 1 (i : Int))), true, ((q + 1 : Nat) : Int)), ⟨q + 1, rfl, hq, setN_shp k2.shp (by omega) (or_ok n2 (by omega)), (setN_len ..).trans k2.len, fun k r c => (setN_sg ..).trans (k2.sgs k r c), fun y i' k => ?_, fun e => (by cases e), fun hf => ?_⟩, by simp; omega, rfl⟩
      ·rw [hN, k2.ns, more]
       constructor
       ·rintro ((x | ⟨x1, x2, x3⟩) | ⟨x1, x2, x3⟩)
        ·exact .inl x
        ·exact .inr ⟨x1, x2, .inl x3⟩
        ·exact .inr ⟨x1, x3, .inr ⟨by rw [x2], by rw [x2]; exact ht, hHB⟩⟩
       ·rintro (x | ⟨x1, x2, x3 | ⟨x3, x4, x5⟩⟩)
        ·exact .inl (.inl x)
        ·exact .inl (.inr ⟨x1, x2, x3⟩)
        ·exact .inr ⟨x1, by omega, x2⟩
      ·have := hf hd ((more _).2 (.inr ⟨rfl, ht, hHB⟩))
       exact (hb ((k2.ns hd i w.length).2 (.inl this))).elim
     | false =>
      rw [if_neg (by decide)]
      exact .inr ⟨(Y, b, ((q + 1 : Nat) : Int)), ⟨q + 1, rfl, hq, skip fun y _ _ hh => by cases hb2.2 hh⟩, by simp; omega, rfl⟩
   ·rw [if_neg ht]
    exact .inr ⟨(Y, b, ((q + 1 : Nat) : Int)), ⟨q + 1, rfl, hq, skip fun y ey et _ => by rw [← ey] at et; exact (ht et).elim⟩, by simp; omega, rfl⟩
  ·rw [if_neg (by show ¬ (q : Int) < (g.Rules.length : Int); omega)]
   have : q = g.Rules.length := by omega
   subst this
   exact .inl ⟨_, rfl, k2⟩
end Go.Proofs.YtpjhcllohagjoaaGreat

namespace Go.Proofs.YtpjhcllohagjoaaGreat
open S
set_option linter.unusedVariables false
set_option linter.unusedSimpArgs false
set_option maxRecDepth 10000
theorem countP_ltC {T : Type} {p q : T → Bool} {x : T} : ∀ {l : List T}, x ∈ l → (∀ z ∈ l, p z = true → q z = true) → q x = true → p x = false → l.countP p < l.countP q
 | [], h, _, _, _ => by cases h
 | y :: l, h, hi, hq, hp => by
  have hle : l.countP p ≤ l.countP q := List.countP_mono_left fun z hz => hi z (List.mem_cons_of_mem _ hz)
  rw [List.countP_cons, List.countP_cons]
  by_cases e : x = y
  ·subst e; rw [hq, hp]; simp; omega
  ·have hm : x ∈ l := by cases h with | head => exact (e rfl).elim | tail _ h => exact h
   have := countP_ltC hm (fun z hz => hi z (List.mem_cons_of_mem _ hz)) hq hp
   have hy := hi y (List.mem_cons_self ..)
   cases hpy : p y with
   | true => rw [hy hpy]; simp; omega
   | false => cases q y <;> simp <;> omega
structure Sp0 (g : Grammar) (xs w : List Int) (X0 : List Q1) (i : Nat) (t : Int) (X : List Q1) : Prop where
 shp : Shp g X
 len : X.length = w.length + 1
 env : ∀ x a b, ¬ (a = i ∧ b = w.length) → (NS X x a b ↔ NS X0 x a b)
 oth : ∀ r c m i' k, ¬ (k = w.length ∧ i' = i) → (BS X r c m i' k ↔ BS X0 r c m i' k)
 ri : RI g.Names.length g.Rules (rd xs) (HS (NS X0) (wf w) i w.length) t fun x => NS X x i w.length
 lo : ∀ r c, r < g.Rules.length → c < nc g r → rd xs (rd g.Rules (r : Int)).Head < t → Full g X (NS X) w i w.length r c
 hi : ∀ r c, r < g.Rules.length → c < nc g r → t < rd xs (rd g.Rules (r : Int)).Head → ∀ m, ¬ BS X r c m i w.length
theorem Sp0.self {g : Grammar} {xs w : List Int} {X0 X : List Q1} {i : Nat} {t : Int} (h : Sp0 g xs w X0 i t X) : upd (NS X0) i w.length (fun x => NS X x i w.length) = NS X := by
 funext x a b
 unfold upd
 split
 ·rename_i e; rw [e.1, e.2]
 ·rename_i e; exact propext (h.env x a b e).symm
theorem full_keep {g : Grammar} {xs w : List Int} (hx : CX g xs w) {X Y : List Q1} {i r c : Nat} (hr : r < g.Rules.length) (hc : c < nc g r) (hb : ∀ m, BS Y r c m i w.length ↔ BS X r c m i w.length)
  (hn : ∀ y : Int, 0 ≤ y → y < g.Names.length → rd xs y + (if (rd (rd g.Rules (r : Int)).Conj (c : Int)).Neg = true then 1 else 0) ≤ rd xs (rd g.Rules (r : Int)).Head → ∀ a b, i ≤ a → a ≤ b → b ≤ w.length → (NS Y y a b ↔ NS X y a b)) (h : Full g X (NS X) w i w.length r c) : Full g Y (NS Y) w i w.length r c := fun m hm => by
 rw [hb, h m hm]
 refine (SeqS_env fun s hs h0 a b h1 h2 h3 => ?_).symm
 have := (hx.lv _ (rd_mem' hr)).2 _ (rd_mem' hc) s (List.mem_of_mem_take hs) h0
 exact hn s.Name h0 this.1 this.2 a b h1 h2 h3
theorem snd_keep {g : Grammar} {w : List Int} {X Y : List Q1} {i r c : Nat} (hb : ∀ m, BS Y r c m i w.length ↔ BS X r c m i w.length) (hn : ∀ y : Int, 0 ≤ y → ∀ a b, NS X y a b → NS Y y a b) (h : Snd g X (NS X) w i w.length r c) : Snd g Y (NS Y) w i w.length r c := fun m hm hh =>
 SeqS_mono (fun s _ h0 a b _ _ _ => hn s.Name h0 a b) (h m hm ((hb m).1 hh))
theorem Sp0.past {g : Grammar} {xs w : List Int} {X0 X : List Q1} {i : Nat} {t : Int} (h : Sp0 g xs w X0 i t X) (hp : ∀ r c, r < g.Rules.length → c < nc g r → ∀ k, i ≤ k → k < w.length → Full g X0 (NS X0) w i k r c) {r c : Nat} (hr : r < g.Rules.length) (hc : c < nc g r) (k : Nat) (h1 : i ≤ k) (h2 : k < w.length) : Full g X (NS X) w i k r c := fun m hm => by
 rw [h.oth r c m i k (fun x => by omega), hp r c hr hc k h1 h2 m hm]
 exact (SeqS_env fun s _ _ a b g1 g2 g3 => h.env s.Name a b (fun x => by omega)).symm
theorem Sp0.pass {g : Grammar} {xs w : List Int} {X0 X X1 : List Q1} {i : Nat} {t : Int} {b neg : Bool} (hx : CX g xs w) (h : Sp0 g xs w X0 i t X) (ha : Acc g w i X X1 b (InL g xs t neg)) : Sp0 g xs w X0 i t X1 := by
 have e := ha.fr.nm
 have hbs : ∀ (r c : Nat), rd xs (rd g.Rules (r : Int)).Head ≠ t → ∀ m, BS X1 r c m i w.length ↔ BS X r c m i w.length := fun r c hne m => ha.fr.bs r c m i w.length fun x => hne x.2.2.2.2.1
 refine ⟨ha.shp, ha.fr.len.trans h.len, fun x a b hh => by rw [e]; exact h.env x a b hh, fun r c m i' k hh => by rw [ha.fr.bs r c m i' k (fun x => hh ⟨x.1, x.2.1⟩)]; exact h.oth r c m i' k hh, by rw [e]; exact h.ri, fun r c hr hc hlt m hm => ?_, fun r c hr hc hlt m hh => ?_⟩
 ·rw [hbs r c (by omega), e]; exact h.lo r c hr hc hlt m hm
 ·exact h.hi r c hr hc hlt m ((hbs r c (by omega) m).1 hh)
theorem HB_rule {g : Grammar} {xs w : List Int} {X0 X : List Q1} {i : Nat} {t : Int} (h : Sp0 g xs w X0 i t X) {r : Nat} (hr : r < g.Rules.length) (hf : ∀ c, c < nc g r → Full g X (NS X) w i w.length r c) : HB g X i w.length r ↔ HS (NS X0) (wf w) i w.length (fun x => NS X x i w.length) (rd g.Rules (r : Int)) := by
 unfold HS
 rw [h.self]
 unfold HB RuleS
 have key : ∀ c, c < nc g r → (BS X r c (sq g r c).length i w.length ↔ SeqS (NS X) (wf w) (sq g r c) i w.length) := fun c hc => by
  have := hf c hc (sq g r c).length (Nat.le_refl _)
  rwa [List.take_length] at this
 constructor
 ·intro hh c hc
  obtain ⟨q, hq, rfl⟩ := mem_rd hc
  rw [hh q hq, key q hq]
 ·intro hh c hc
  rw [hh _ (rd_mem' hc), key c hc]
theorem turn_l2 (K : Nat) (hK : 200000 ≤ K) (g : Grammar) (xs w : List Int) (X0 : List Q1) (hx : CX g xs w) (i : Nat) (hi : i ≤ w.length) (t : Nat) (X : List Q1) (h : Sp0 g xs w X0 i t X)
  (hp : ∀ r c, r < g.Rules.length → c < nc g r → ∀ k, i ≤ k → k < w.length → Full g X0 (NS X0) w i k r c)
  (hng : ∀ r c, InL g xs t true r c → Full g X (NS X) w i w.length r c) (hps : ∀ r c, InL g xs t false r c → Snd g X (NS X) w i w.length r c) :
  ∃ X' b, V2.l2 K i t K (⟨g, xs, w, X⟩, true) = some (⟨g, xs, w, X'⟩, b) ∧ Sp0 g xs w X0 i t X' ∧ (∀ r c, r < g.Rules.length → c < nc g r → rd xs (rd g.Rules (r : Int)).Head = t → Full g X' (NS X') w i w.length r c) ∧ (∀ r ∈ g.Rules, rd xs r.Head = t → HS (NS X0) (wf w) i w.length (fun x => NS X' x i w.length) r → NS X' r.Head i w.length) := by
 classical
 let C : List Q1 → Prop := fun Y => ∀ r c, InL g xs t false r c → Full g Y (NS Y) w i w.length r c
 let cnt : List Q1 → Nat := fun Y => (List.range g.Names.length).countP fun y => decide (¬ NS Y ((y : Nat) : Int) i w.length)
 have hcle : ∀ Y, cnt Y ≤ 64 := fun Y => Nat.le_trans (List.countP_le_length) (by simp; exact hx.nl)
 have key := rounds (σ := J0 × Bool) (ρ := J0 × Bool) (L := V2.l2 K i t)
  (fun s => ∃ Y, s.1 = ⟨g, xs, w, Y⟩ ∧ Sp0 g xs w X0 i t Y ∧ (∀ r c, InL g xs t true r c → Full g Y (NS Y) w i w.length r c) ∧ (∀ r c, InL g xs t false r c → Snd g Y (NS Y) w i w.length r c) ∧
   (s.2 = false → C Y ∧ ∀ r ∈ g.Rules, rd xs r.Head = t → HS (NS X0) (wf w) i w.length (fun x => NS Y x i w.length) r → NS Y r.Head i w.length))
  (fun s => 2 * (2 * cnt s.1.sets + if C s.1.sets then 0 else 1) + if s.2 = true then 1 else 0)
  (fun ρ => ∃ Y, ρ.1 = ⟨g, xs, w, Y⟩ ∧ Sp0 g xs w X0 i t Y ∧ (∀ r c, r < g.Rules.length → c < nc g r → rd xs (rd g.Rules (r : Int)).Head = t → Full g Y (NS Y) w i w.length r c) ∧ (∀ r ∈ g.Rules, rd xs r.Head = t → HS (NS X0) (wf w) i w.length (fun x => NS Y x i w.length) r → NS Y r.Head i w.length)) ?_ K (⟨g, xs, w, X⟩, true) ⟨X, rfl, h, hng, hps, fun e => by cases e⟩ (by have := hcle X; simp only; split <;> split <;> omega)
 ·obtain ⟨⟨E, b⟩, e1, Y, e2, h1, h2, h3⟩ := key
  simp only at e2; subst e2
  exact ⟨Y, b, e1, h1, h2, h3⟩
 ·rintro ⟨E, more⟩ mm ⟨Y, e2, k1, k2, k3, k4⟩
  simp only at e2 k4; subst e2
  simp only [V2.l2]
  cases more with
  | false =>
   rw [if_neg (by decide)]
   obtain ⟨c1, c2⟩ := k4 rfl
   refine .inl ⟨_, rfl, Y, rfl, k1, fun r c hr hc ht => ?_, c2⟩
   cases hn : (rd (rd g.Rules (r : Int)).Conj (c : Int)).Neg with
   | true => exact k2 r c ⟨hr, hc, ht, hn⟩
   | false => exact c1 r c ⟨hr, hc, ht, hn⟩
  | true =>
   rw [if_pos rfl]
   obtain ⟨b1, Y1, ep, ha⟩ := pass_spec K hK g xs w Y hx k1.shp k1.len t i false hi (fun r c hq k g1 g2 => k1.past hp hq.1 hq.2.1 k g1 g2) k3
   have s1 := k1.pass hx ha
   rw [ep, Option.bind_some]
   obtain ⟨b2, Y2, eh, hh⟩ := heads_spec K hK g xs w Y1 hx s1.shp s1.len t i hi
   erw [eh, Option.bind_some]
   have e1 := ha.fr.nm
   have pc : C Y1 := fun r c hq m hm => by rw [e1]; exact ha.full r c hq m hm
   have ng1 : ∀ r c, InL g xs t true r c → Full g Y1 (NS Y1) w i w.length r c := fun r c hq m hm => by
    rw [ha.fr.bs r c m i w.length (fun x => by have := x.2.2.2.2.2; rw [hq.2.2.2] at this; cases this), e1]; exact k2 r c hq m hm
   have all1 : ∀ r c, r < g.Rules.length → c < nc g r → rd xs (rd g.Rules (r : Int)).Head = t → Full g Y1 (NS Y1) w i w.length r c := fun r c hr hc ht => by
    cases hn : (rd (rd g.Rules (r : Int)).Conj (c : Int)).Neg with
    | true => exact ng1 r c ⟨hr, hc, ht, hn⟩
    | false => exact pc r c ⟨hr, hc, ht, hn⟩
   have hA : ∀ y, HA g xs Y1 t i w.length g.Rules.length y → ∃ r ∈ g.Rules, r.Head = y ∧ rd xs y = t ∧ HS (NS X0) (wf w) i w.length (fun x => NS Y1 x i w.length) r := fun y ⟨r, h1, h2, h3, h4⟩ =>
    ⟨rd g.Rules (r : Int), rd_mem' h1, h2, h3, (HB_rule s1 h1 fun c hc => all1 r c h1 hc (by rw [h2]; exact h3)).1 h4⟩
   have nat : ∀ (x : Int), NS Y2 x = NS Y2 (x.toNat : Int) ∧ NS Y1 x = NS Y1 (x.toNat : Int) := fun x => by
    by_cases h0 : 0 ≤ x
    ·rw [Int.toNat_of_nonneg h0]; exact ⟨rfl, rfl⟩
    ·have e0 : x.toNat = 0 := Int.toNat_of_nonpos (by omega)
     rw [e0]
     exact ⟨by funext a b; exact propext (NS_neg (by omega)), by funext a b; exact propext (NS_neg (by omega))⟩
   have ns2 : ∀ x a b, ¬ (a = i ∧ b = w.length) → (NS Y2 x a b ↔ NS Y1 x a b) := fun x a b hne => by
    rw [(nat x).1, (nat x).2, hh.ns]
    exact ⟨fun z => z.elim id fun z => (hne ⟨z.2.1, z.1⟩).elim, .inl⟩
   have ns2i : ∀ y : Int, 0 ≤ y → (NS Y2 y i w.length ↔ NS Y1 y i w.length ∨ HA g xs Y1 t i w.length g.Rules.length y) := fun y h0 => by
    have := hh.ns y.toNat i w.length
    rw [Int.toNat_of_nonneg h0] at this
    rw [this]
    exact ⟨fun z => z.imp id fun z => z.2.2, fun z => z.imp id fun z => ⟨rfl, rfl, z⟩⟩
   have lowN : ∀ y : Int, 0 ≤ y → rd xs y ≠ t → ∀ a b, NS Y2 y a b ↔ NS Y1 y a b := fun y h0 hne a b => by
    by_cases hab : a = i ∧ b = w.length
    ·rw [hab.1, hab.2, ns2i y h0]
     exact ⟨fun z => z.elim id fun ⟨_, _, _, z, _⟩ => (hne z).elim, .inl⟩
    ·exact ns2 y a b hab
   have upN : ∀ y : Int, 0 ≤ y → ∀ a b, NS Y1 y a b → NS Y2 y a b := fun y h0 a b hz => by
    by_cases hab : a = i ∧ b = w.length
    ·rw [hab.1, hab.2] at hz ⊢; exact (ns2i y h0).2 (.inl hz)
    ·exact (ns2 y a b hab).2 hz
   have bs2 := BS_sg hh.sgs
   have s2 : Sp0 g xs w X0 i t Y2 := by
    refine ⟨hh.shp, hh.len.trans s1.len, fun x a b hne => (ns2 x a b hne).trans (s1.env x a b hne), fun r c m i' k hne => (bs2 r c m i' k).trans (s1.oth r c m i' k hne), ?_, fun r c hr hc hlt => ?_, fun r c hr hc hlt m hz => s1.hi r c hr hc hlt m ((bs2 ..).1 hz)⟩
    ·have hri := RI.puts (HS_lvl hx.lv (NS X0) (wf w) i w.length) s1.ri (A := fun y => 0 ≤ y ∧ HA g xs Y1 t i w.length g.Rules.length y) fun y hy => hA y hy.2
     refine RI_on hri (fun y h0 h1 => ?_) (HS_lvl hx.lv (NS X0) (wf w) i w.length)
     rw [ns2i y h0]
     exact ⟨fun z => z.imp id fun z => ⟨h0, z⟩, fun z => z.imp id fun z => z.2⟩
    ·exact full_keep hx hr hc (fun m => bs2 ..) (fun y h0 h1 hle a b _ _ _ => lowN y h0 (by split at hle <;> omega) a b) (s1.lo r c hr hc hlt)
   have ng2 : ∀ r c, InL g xs t true r c → Full g Y2 (NS Y2) w i w.length r c := fun r c hq => full_keep hx hq.1 hq.2.1 (fun m => bs2 ..) (fun y h0 h1 hle a b _ _ _ => lowN y h0 (by rw [hq.2.2.2, hq.2.2.1] at hle; simp at hle; omega) a b) (ng1 r c hq)
   have ps2 : ∀ r c, InL g xs t false r c → Snd g Y2 (NS Y2) w i w.length r c := fun r c hq => snd_keep (fun m => bs2 ..) (fun y h0 a b => upN y h0 a b) fun m hm => (pc r c hq m hm).1
   have cntle : cnt Y1 = cnt Y := by
    show (List.range g.Names.length).countP _ = (List.range g.Names.length).countP _
    rw [e1]
   have grew : b2 = true → cnt Y2 < cnt Y1 := fun hb2 => by
    have : ∃ y : Nat, HA g xs Y1 t i w.length g.Rules.length (y : Int) ∧ ¬ NS Y1 (y : Int) i w.length := Classical.byContradiction fun hno => by
     have := hh.still fun y hy => Classical.byContradiction fun hz => hno ⟨y, hy, hz⟩
     rw [this] at hb2; cases hb2
    obtain ⟨y, hy, hz⟩ := this
    obtain ⟨r, h1, h2, _, _⟩ := hy
    have hyl := hx.hd h1
    refine countP_ltC (x := y) (List.mem_range.2 (by omega)) (fun z _ hz2 => ?_) ?_ ?_
    ·simp only [decide_eq_true_eq] at hz2 ⊢
     exact fun hz3 => hz2 (upN z (Int.natCast_nonneg _) _ _ hz3)
    ·simpa using hz
    ·simp only [decide_eq_false_iff_not, Classical.not_not]
     exact (ns2i y (Int.natCast_nonneg _)).2 (.inr ⟨r, h1, h2, by assumption, by assumption⟩)
   have nogrew : b2 = false → Y2 = Y1 := hh.same
   have closed : b2 = false → ∀ r ∈ g.Rules, rd xs r.Head = t → HS (NS X0) (wf w) i w.length (fun x => NS Y2 x i w.length) r → NS Y2 r.Head i w.length := fun hb2 r hr ht hH => by
    have eY := nogrew hb2
    rw [eY] at hH
    obtain ⟨q, hq, rfl⟩ := mem_rd hr
    exact (ns2i _ (hx.hd hq).1).2 (.inr ⟨q, hq, rfl, ht, (HB_rule s1 hq fun c hc => all1 q c hq hc ht).2 hH⟩)
   by_cases hb1 : b1 = true
   ·rw [if_pos hb1]
    refine .inr ⟨(⟨g, xs, w, Y2⟩, true), ⟨Y2, rfl, s2, ng2, ps2, fun e => by cases e⟩, ?_, rfl⟩
    have hC : ¬ C Y := fun hc => by have := ha.still hc; rw [hb1] at this; cases this
    simp only [if_neg hC]
    cases hb2 : b2 with
    | true => have := grew hb2; split <;> omega
    | false =>
     have eY := nogrew hb2
     rw [eY, if_pos pc, cntle]; omega
   ·rw [if_neg hb1]
    refine .inr ⟨(⟨g, xs, w, Y2⟩, b2), ⟨Y2, rfl, s2, ng2, ps2, fun e => ⟨by rw [nogrew e]; exact pc, closed e⟩⟩, ?_, rfl⟩
    have eY1 := ha.same (by simpa using hb1)
    cases hb2 : b2 with
    | true =>
     have := grew hb2
     simp only [if_true]
     split <;> split <;> omega
    | false =>
     have eY := nogrew hb2
     simp only
     rw [eY, eY1]
     simp
end Go.Proofs.YtpjhcllohagjoaaGreat

