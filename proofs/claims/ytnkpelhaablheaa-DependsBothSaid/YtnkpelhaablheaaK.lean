/-
  maps.Keys and slices.SortedFunc at this program. Own work, written by a program (nk.py).
-/
import Derived.Test.YtnkpelhaablheaaL
import Derived.Test.YtnkpelhaablheaaPRow
namespace Go.Proofs.Ytnkpelhaablheaa
open S
set_option linter.unusedVariables false
set_option maxRecDepth 100000
theorem cLits {κ : Type} {c : Co κ} {lits : κ → List Value} (hl : ∀ x, c.e x = (lits x).map AV.lit) (k : κ) : CellsOf (.lit (.agg (lits k).toArray)) (c.e k) := fun Z w v hv => by
  have hv' : v = .agg (lits k).toArray := hv
  subst hv'
  rw [hl]
  simpa [Value.cells] using allP_of_lits (Z := Z) (w := w) (lits k)
theorem kgM21 : IsAgg Try.prog 56 false := fun _ => by kernel_rfl
theorem kgS21 : IsAgg Try.prog 27 false := fun _ => by kernel_rfl
theorem kgE21 : IsAgg Try.prog 40 true := fun _ => by kernel_rfl
theorem kzS21 : SizeIs Try.prog 27 1 := fun _ => by kernel_rfl
theorem kzE21 : SizeIs Try.prog 40 3 := fun _ => by kernel_rfl
theorem kinfo21 : Info Try.prog 40 (.agg #[.int .i64 0, .int .i64 0, .bool false]) 3 24 := by unfold Info; kernel_rfl
theorem kal21 : ∀ w, (Instr.alloc 40 true (.tuple #[])).run Try.prog w = .ok (.pointer (some ⟨w.heap.size, 0, none⟩)) (w.alloc (.cells ([.int .i64 0, .int .i64 0, .bool false] : List Value).toArray 40)) := fun _ => by kernel_rfl
theorem kty21 : KeysTy Try.prog cEdge kvEdge (fun x : Bool => Value.bool x) 56 40 4 27 [.int .i64 0, .int .i64 0, .bool false] [Ai .i64 0, Ai .i64 0, Ab false] (.agg #[.int .i64 0, .int .i64 0, .bool false]) 24 := {
  ht := Try.underlying56, gM := kgM21, hS := Try.underlying27, gS := kgS21, zS := kzS21, gE := kgE21, zE := kzE21, info := kinfo21, zz := rfl, b0 := (by decide), mx := rfl, al := kal21,
  azp := fun _ _ => .cons rfl (.cons rfl (.cons rfl .nil)), azl := rfl, cell := cLits (lits := litsEdge) (fun _ => rfl) }
theorem kent34 : Ent Try.prog 34 := fun _ _ => by kernel_rfl
theorem kent44 : Ent Try.prog 44 := fun _ _ => by kernel_rfl
theorem kent32 : Ent Try.prog 32 := fun _ _ => by kernel_rfl
theorem kent33 : Ent Try.prog 33 := fun _ _ => by kernel_rfl
theorem kent23 : Ent Try.prog 23 := fun _ _ => by kernel_rfl
theorem kit34 {Bs l b : Nat} {rec : Loop} {v : Value} {es : List (Edge × Bool)} (hbd : es.length * 24 ≤ 140737488355328) (A : ApRec 27 40 Bs rec) : S.Spec Try.prog 34 [.lit (.func (.yield l) #[] #[]), .fptr [.lit (.map (some b))]] [.mp kvEdge (fun x : Bool => Value.bool x) b es, .box Bs [.sv v], .own 40 cEdge v [], .obj l (.loop rec)]
    fun _ H => ∃ v' ss, ss.Perm (es.map (·.1)) ∧ H = [.mp kvEdge (fun x : Bool => Value.bool x) b es, .box Bs [.sv v'], .own 40 cEdge v' ss, .obj l (.loop rec)] := keysIter kty21 A hbd Try.func34 rfl rfl rfl
theorem kap44 {b : Nat} {es : List (Edge × Bool)} (hbd : es.length * 24 ≤ 140737488355328) : S.Spec Try.prog 44 [.lit (.slice none 0 0), .keys 34 b] [.mp kvEdge (fun x : Bool => Value.bool x) b es] (KeysPost 40 cEdge kvEdge (fun x : Bool => Value.bool x) b es) := appendSeq kty21 kent34 (fun A => kit34 hbd A) Try.func44 rfl rfl rfl
theorem kco32 {b : Nat} {es : List (Edge × Bool)} (hbd : es.length * 24 ≤ 140737488355328) : S.Spec Try.prog 32 [.keys 34 b] [.mp kvEdge (fun x : Bool => Value.bool x) b es] (KeysPost 40 cEdge kvEdge (fun x : Bool => Value.bool x) b es) := collectFn kent44 (kap44 hbd) Try.func32 rfl rfl rfl
theorem keys22 {b : Nat} : Pure Try.prog 22 [.lit (.map (some b))] (some ()) fun _ => .keys 34 b := keysFn Try.func22 rfl rfl rfl
theorem kcmp23 (x y : Edge) : Pure Try.prog 23 [.agg (cEdge.e x), .agg (cEdge.e y)] (some (rowC x y)) fun r => Ai .i64 r := by
  have h := deps_row_ok 10 x y
  rw [row_eq 10 (Nat.le_refl _)] at h
  exact h
theorem kone40 (x : Edge) : ∀ v ∈ litsEdge x, v.oneCell' = true := by intro v hv; simp [litsEdge] at hv; rcases hv with rfl | rfl | rfl <;> rfl
theorem sorted21 {K b : Nat} {es : List (Edge × Bool)} (_ : 10 ≤ K) (hbd : es.length * 24 ≤ 140737488355328) : Hands Try.prog 21 [.keys 34 b, .lit (.func (.func 23) #[] #[])] [.mp kvEdge (fun x : Bool => Value.bool x) b es] (some ()) (fun _ v => .sv v) (fun _ v => [.own 40 cEdge v (sortL rowC (es.map (·.1))), .mp kvEdge (fun x : Bool => Value.bool x) b es]) := by
  intro r _ w F Z vs hvs hi
  refine (sortedFn (Sd := SortedBy rowC) kent32 kent33 (kco32 hbd) (fun v ss hp => sortFn sort33 (c := cEdge) (lits := litsEdge) (fun _ => rfl) kone40 kgE21 kzE21 rowC_swo kent23 kcmp23 (by have := hp.length_eq; simp at this; omega)) Try.func21 rfl rfl rfl w F Z vs hvs hi).mono ?_
  rintro e w' ⟨v, he, F', Z', av, H', ⟨v1, ys, rfl, hp, hs, rfl⟩, h1, h2⟩
  exact ⟨v, he, F', Z', _, _, ⟨v1, rfl, by rw [sortL_is rowC_swo rowC_anti hp hs]⟩, h1, h2⟩
end Go.Proofs.Ytnkpelhaablheaa
