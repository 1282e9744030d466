/-
  maps.Keys and slices.SortedFunc at this program. Own work, written by a program (nk.py).
-/
import Derived.Test.YtflbjhfklhidjaaL
import Derived.Test.YtflbjhfklhidjaaPRow
namespace Go.Proofs.Ytflbjhfklhidjaa
open S
set_option linter.unusedVariables false
set_option maxRecDepth 100000
theorem cLits {κ : Type} {c : Co κ} {lits : κ → List Value} (hl : ∀ x, c.e x = (lits x).map AV.lit) (k : κ) : CellsOf (.lit (.agg (lits k).toArray)) (c.e k) := fun Z w v hv => by
  have hv' : v = .agg (lits k).toArray := hv
  subst hv'
  rw [hl]
  simpa [Value.cells] using allP_of_lits (Z := Z) (w := w) (lits k)
theorem kgM38 : IsAgg Try.prog 85 false := fun _ => by kernel_rfl
theorem kgS38 : IsAgg Try.prog 67 false := fun _ => by kernel_rfl
theorem kgE38 : IsAgg Try.prog 72 true := fun _ => by kernel_rfl
theorem kzS38 : SizeIs Try.prog 67 1 := fun _ => by kernel_rfl
theorem kzE38 : SizeIs Try.prog 72 3 := fun _ => by kernel_rfl
theorem kinfo38 : Info Try.prog 72 (.agg #[.int .i64 0, .int .i64 0, .bool false]) 3 24 := by unfold Info; kernel_rfl
theorem kal38 : ∀ w, (Instr.alloc 72 true (.tuple #[])).run Try.prog w = .ok (.pointer (some ⟨w.heap.size, 0, none⟩)) (w.alloc (.cells ([.int .i64 0, .int .i64 0, .bool false] : List Value).toArray 72)) := fun _ => by kernel_rfl
theorem kty38 : KeysTy Try.prog cEdge kvEdge (fun x : Bool => Value.bool x) 85 72 4 67 [.int .i64 0, .int .i64 0, .bool false] [Ai .i64 0, Ai .i64 0, Ab false] (.agg #[.int .i64 0, .int .i64 0, .bool false]) 24 := {
  ht := Try.underlying85, gM := kgM38, hS := Try.underlying67, gS := kgS38, zS := kzS38, gE := kgE38, zE := kzE38, info := kinfo38, zz := rfl, b0 := (by decide), mx := rfl, al := kal38,
  azp := fun _ _ => .cons rfl (.cons rfl (.cons rfl .nil)), azl := rfl, cell := cLits (lits := litsEdge) (fun _ => rfl) }
theorem kent53 : Ent Try.prog 53 := fun _ _ => by kernel_rfl
theorem kent72 : Ent Try.prog 72 := fun _ _ => by kernel_rfl
theorem kent51 : Ent Try.prog 51 := fun _ _ => by kernel_rfl
theorem kent52 : Ent Try.prog 52 := fun _ _ => by kernel_rfl
theorem kent40 : Ent Try.prog 40 := fun _ _ => by kernel_rfl
theorem kit53 {Bs l b : Nat} {rec : Loop} {v : Value} {es : List (Edge × Bool)} (hbd : es.length * 24 ≤ 140737488355328) (A : ApRec 67 72 Bs rec) : S.Spec Try.prog 53 [.lit (.func (.yield l) #[] #[]), .fptr [.lit (.map (some b))]] [.mp kvEdge (fun x : Bool => Value.bool x) b es, .box Bs [.sv v], .own 72 cEdge v [], .obj l (.loop rec)]
    fun _ H => ∃ v' ss, ss.Perm (es.map (·.1)) ∧ H = [.mp kvEdge (fun x : Bool => Value.bool x) b es, .box Bs [.sv v'], .own 72 cEdge v' ss, .obj l (.loop rec)] := keysIter kty38 A hbd Try.func53 rfl rfl rfl
theorem kap72 {b : Nat} {es : List (Edge × Bool)} (hbd : es.length * 24 ≤ 140737488355328) : S.Spec Try.prog 72 [.lit (.slice none 0 0), .keys 53 b] [.mp kvEdge (fun x : Bool => Value.bool x) b es] (KeysPost 72 cEdge kvEdge (fun x : Bool => Value.bool x) b es) := appendSeq kty38 kent53 (fun A => kit53 hbd A) Try.func72 rfl rfl rfl
theorem kco51 {b : Nat} {es : List (Edge × Bool)} (hbd : es.length * 24 ≤ 140737488355328) : S.Spec Try.prog 51 [.keys 53 b] [.mp kvEdge (fun x : Bool => Value.bool x) b es] (KeysPost 72 cEdge kvEdge (fun x : Bool => Value.bool x) b es) := collectFn kent72 (kap72 hbd) Try.func51 rfl rfl rfl
theorem keys39 {b : Nat} : Pure Try.prog 39 [.lit (.map (some b))] (some ()) fun _ => .keys 53 b := keysFn Try.func39 rfl rfl rfl
theorem kcmp40 (x y : Edge) : Pure Try.prog 40 [.agg (cEdge.e x), .agg (cEdge.e y)] (some (rowC x y)) fun r => Ai .i64 r := by
  have h := deps_row_ok 10 x y
  rw [row_eq 10 (Nat.le_refl _)] at h
  exact h
theorem kone72 (x : Edge) : ∀ v ∈ litsEdge x, v.oneCell' = true := by intro v hv; simp [litsEdge] at hv; rcases hv with rfl | rfl | rfl <;> rfl
theorem sorted38 {K b : Nat} {es : List (Edge × Bool)} (_ : 10 ≤ K) (hbd : es.length * 24 ≤ 140737488355328) : Hands Try.prog 38 [.keys 53 b, .lit (.func (.func 40) #[] #[])] [.mp kvEdge (fun x : Bool => Value.bool x) b es] (some ()) (fun _ v => .sv v) (fun _ v => [.own 72 cEdge v (sortL rowC (es.map (·.1))), .mp kvEdge (fun x : Bool => Value.bool x) b es]) := by
  intro r _ w F Z vs hvs hi
  refine (sortedFn (Sd := SortedBy rowC) kent51 kent52 (kco51 hbd) (fun v ss hp => sortFn sort52 (c := cEdge) (lits := litsEdge) (fun _ => rfl) kone72 kgE38 kzE38 rowC_swo kent40 kcmp40 (by have := hp.length_eq; simp at this; omega)) Try.func38 rfl rfl rfl w F Z vs hvs hi).mono ?_
  rintro e w' ⟨v, he, F', Z', av, H', ⟨v1, ys, rfl, hp, hs, rfl⟩, h1, h2⟩
  exact ⟨v, he, F', Z', _, _, ⟨v1, rfl, by rw [sortL_is rowC_swo rowC_anti hp hs]⟩, h1, h2⟩
end Go.Proofs.Ytflbjhfklhidjaa
