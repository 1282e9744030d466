/-
  Sim, the tenth text: a region whose order is open, told order by order. Own work; no claim stands here.
-/
import Derived.Test.YtpjhcllohagjoaaSK
namespace Go.Proofs.Ytpjhcllohagjoaa
namespace S
open Go.RowKit
set_option linter.unusedVariables false
set_option linter.unusedSimpArgs false

/-- All orders in which the operations may run, S done. -/
def exts (ops : Array Oper) : Nat → List Nat → List (List Nat)
  | m, S => if (List.range ops.size).all (fun i => S.elem i) then [[]] else match m with
    | 0 => []
    | m + 1 => (List.range ops.size).flatMap fun i => match ops[i]? with
      | some o => if !S.elem i && (edgesOn o).all (fun e => S.elem e) then (exts ops m (i :: S)).map (i :: ·) else []
      | none => []

theorem filter_less (S : List Nat) (i : Nat) (hS : i ∉ S) : ∀ l : List Nat, i ∈ l → (l.filter fun j => !(i :: S).elem j).length < (l.filter fun j => !S.elem j).length := by
  intro l
  have le : ∀ l : List Nat, (l.filter fun j => !(i :: S).elem j).length ≤ (l.filter fun j => !S.elem j).length := by
    intro l
    induction l with
    | nil => simp
    | cons a l ih =>
      simp only [List.filter_cons]
      by_cases h : S.elem a = true
      · have : (i :: S).elem a = true := by simp at h ⊢; exact .inr h
        simp only [h, this, Bool.not_true]; exact ih
      · have h' : S.elem a = false := by simpa using h
        simp only [h', Bool.not_false, if_true]
        split
        · simp only [List.length_cons]; omega
        · simp only [List.length_cons]; omega
  induction l with
  | nil => intro h; cases h
  | cons a l ih =>
    intro h
    by_cases e : i = a
    · subst e
      have h1 : (i :: S).elem i = true := by simp
      have h2 : S.elem i = false := by simpa using hS
      simp only [List.filter_cons, h1, h2, Bool.not_true, Bool.not_false, if_true, List.length_cons]
      have := le l
      simp at this ⊢
      omega
    · have h := ih (by simpa [e] using h)
      simp only [List.filter_cons]
      by_cases g : S.elem a = true
      · have : (i :: S).elem a = true := by simp at g ⊢; exact .inr g
        simp only [g, this, Bool.not_true]; exact h
      · have h' : S.elem a = false := by simpa using g
        have h2 : (i :: S).elem a = false := by
          simp at g ⊢; exact ⟨fun x => e x.symm, g⟩
        simp only [h', h2, Bool.not_false, if_true, List.length_cons]; omega

theorem lin_exts {ops : Array Oper} {S is : List Nat} (h : Lin ops S is) : ∀ m, ((List.range ops.size).filter fun j => !S.elem j).length ≤ m → is ∈ exts ops m S := by
  induction h with
  | @nil S h =>
    intro m _
    unfold exts
    rw [if_pos]
    · simp
    · simpa using h
  | @cons S is i o ho hn he _ ih =>
    intro m hm
    have hi : i < ops.size := by
      rcases Nat.lt_or_ge i ops.size with h | h
      · exact h
      · simp [h] at ho
    have hlt := filter_less S i hn (List.range ops.size) (by simpa using hi)
    unfold exts
    rw [if_neg]
    · cases m with
      | zero => omega
      | succ m =>
        simp only [List.mem_flatMap]
        refine ⟨i, by simpa using hi, ?_⟩
        have hc : (!S.elem i && (edgesOn o).all fun e => S.elem e) = true := by
          simp only [Bool.and_eq_true, Bool.not_eq_true', List.all_eq_true]
          exact ⟨by simpa using hn, fun e h => by simpa using he e h⟩
        simp only [ho, hc, if_true, List.mem_map]
        exact ⟨is, ih m (by omega), rfl⟩
    · intro h
      rw [List.all_eq_true] at h
      have := h i (by simpa using hi)
      exact hn (by simpa using this)

theorem lin_map {ops : Array Oper} {S is : List Nat} (h : Lin ops S is) : is.map (fun i => ops[i]?) = (is.filterMap fun i => ops[i]?).map some := by
  induction h with
  | nil => rfl
  | cons ho _ _ _ ih => simp [ho, ih]

def Each {α : Type} (p : α → Prop) : List α → Prop
  | [] => True
  | a :: l => p a ∧ Each p l
theorem Each.mem {α : Type} {p : α → Prop} {l : List α} (h : Each p l) : ∀ a ∈ l, p a := by
  induction l with
  | nil => simp
  | cons b l ih =>
    intro a ha
    rcases List.mem_cons.1 ha with rfl | ha
    · exact h.1
    · exact ih h.2 a ha

/-- Some of what is owned, in a row of its own: each number counts what the earlier ones left. -/
def pickR (H : List Res) : List Nat → List Res
  | [] => []
  | j :: js => match H[j]? with
    | some r => r :: pickR (H.eraseIdx j) js
    | none => []

theorem HAll.pickR {Z : Nat → Prop} {w : World} : ∀ (js : List Nat) {H : List Res} {F : Nat → Prop}, HAll H Z w F → HAll (S.pickR H js) Z w F := by
  intro js
  induction js with
  | nil => intros; trivial
  | cons j js ih =>
    intro H F h
    unfold S.pickR
    cases hj : H[j]? with
    | none => trivial
    | some r =>
      obtain ⟨F1, F2, h1, h2, d1, d2⟩ := h.take hj
      exact ⟨F1, F2, h1, ih h2, d1, d2⟩

section
variable {P : Program} {f : FuncId} {n : Nat} {ops : Array Oper} {l : List Oper} {k : List Item} {fr : Fr} {H : List Res} {ρ R : Type} {x : Option ρ} {X : ρ → Option R} {K : R → AV → List Res → Prop}

/-- Less is known, and what is owned stands in another row. -/
theorem sAgP {fr' : Fr} {H' : List Res} (h : Sim P f n k fr' H' x X K) (js : List Nat) (hs : Sub fr' fr) (hH : S.pickR H js = H') : Sim P f n k fr H x X K := by
  subst hH
  exact fun r hr w0 F0 Z0 w F Z tmps hn hi hf => h r hr w0 F0 Z0 w F Z tmps hn (hi.less (·.pickR js)) (fun t a ht => hf t a (hs.look ht))

/-- A box's cell is the nil slice: a slice of the call's own, without elements. -/
theorem sNilB {T : Type} {c : Co T} {todo : List Item} (j i : Nat) (e : TypeId) {b : Nat} {az : List AV} (hj : H[j]? = some (.box b az)) (hu : az[i]? = some (.lit (.slice none 0 0))) (h : ∀ v, Sim P f n todo fr (.own e c v [] :: H.set j (.box b (az.set i (.sv v)))) x X K) : Sim P f n todo fr H x X K := by
  intro r hr w0 F0 Z0 w F Z tmps hn hi hf
  obtain ⟨F', hi', _⟩ := hi.turn (w' := w) (r' := .box b (az.set i (.sv (.slice none 0 0)))) hj fun G1 ⟨hg, vs, t', e1, e2⟩ _ => ⟨G1, Step.refl _ _, ⟨hg, vs, t', e1, e2.imp hu fun u hu => ⟨hu, _, _, _, rfl⟩⟩, fun _ x => .inl x⟩
  exact h (.slice none 0 0) r hr w0 F0 Z0 w F' Z tmps hn ⟨hi'.base, hi'.z0, hi'.zin, hi'.fin, fun _ => False, F', .inr ⟨rfl, none, rfl⟩, hi'.res, fun b hb => hb.elim, fun b hb => hb⟩ hf

/-- An open order, told order by order. -/
theorem sDrawE {id : Nat} (L : List (List Nat)) (hm : P.follows .mixedOrders = true) (hb : backOk ops = true) (hL : exts ops ops.size [] = L) (h : Each (fun is => SimL P f n ops (is.filterMap fun i => ops[i]?) k fr H x X K) L) : Sim P f n (.code (.region id ops true) :: k) fr H x X K := by
  intro r hr w0 F0 Z0 w F Z tmps hn hi hf
  refine .regionDraw fun t => ?_
  have hlin := lin_schedule hm ops hb t
  have hmem := lin_exts hlin ops.size (Nat.le_trans (List.length_filter_le _ _) (by simp))
  rw [hL] at hmem
  exact h.mem _ hmem _ (lin_map hlin) r hr w0 F0 Z0 _ F Z tmps hn (hi.quiet (Step.drew w _) (fun _ x => x) (fun _ x => .inl x)) (fun t a ht => AV.st a (w := w) (w' := { w with drawn := w.drawn + 1 }) (fun _ x => x) (fun _ _ => rfl) (hf t a ht))
end
end S
end Go.Proofs.Ytpjhcllohagjoaa
