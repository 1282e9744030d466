/-
  maps.Keys and slices.SortedFunc at this program. Own work, written by a program (nk.py).
-/
import Derived.Test.YtpjhcllohagjoaaL
import Derived.Test.YtpjhcllohagjoaaPRow
namespace Go.Proofs.Ytpjhcllohagjoaa
open S
set_option linter.unusedVariables false
set_option maxRecDepth 100000
theorem cLits {κ : Type} {c : Co κ} {lits : κ → List Value} (hl : ∀ x, c.e x = (lits x).map AV.lit) (k : κ) : CellsOf (.lit (.agg (lits k).toArray)) (c.e k) := fun Z w v hv => by
  have hv' : v = .agg (lits k).toArray := hv
  subst hv'
  rw [hl]
  simpa [Value.cells] using allP_of_lits (Z := Z) (w := w) (lits k)
theorem kgM25 : IsAgg Try.prog 71 false := fun _ => by kernel_rfl
theorem kgS25 : IsAgg Try.prog 62 false := fun _ => by kernel_rfl
theorem kgE25 : IsAgg Try.prog 67 true := fun _ => by kernel_rfl
theorem kzS25 : SizeIs Try.prog 62 1 := fun _ => by kernel_rfl
theorem kzE25 : SizeIs Try.prog 67 3 := fun _ => by kernel_rfl
theorem kinfo25 : Info Try.prog 67 (.agg #[.int .i64 0, .int .i64 0, .bool false]) 3 24 := by unfold Info; kernel_rfl
theorem kal25 : ∀ w, (Instr.alloc 67 true (.tuple #[])).run Try.prog w = .ok (.pointer (some ⟨w.heap.size, 0, none⟩)) (w.alloc (.cells ([.int .i64 0, .int .i64 0, .bool false] : List Value).toArray 67)) := fun _ => by kernel_rfl
theorem kty25 : KeysTy Try.prog cEdge kvEdge (fun x : Bool => Value.bool x) 71 67 4 62 [.int .i64 0, .int .i64 0, .bool false] [Ai .i64 0, Ai .i64 0, Ab false] (.agg #[.int .i64 0, .int .i64 0, .bool false]) 24 := {
  ht := Try.underlying71, gM := kgM25, hS := Try.underlying62, gS := kgS25, zS := kzS25, gE := kgE25, zE := kzE25, info := kinfo25, zz := rfl, b0 := (by decide), mx := rfl, al := kal25,
  azp := fun _ _ => .cons rfl (.cons rfl (.cons rfl .nil)), azl := rfl, cell := cLits (lits := litsEdge) (fun _ => rfl) }
theorem kent36 : Ent Try.prog 36 := fun _ _ => by kernel_rfl
theorem kent46 : Ent Try.prog 46 := fun _ _ => by kernel_rfl
theorem kent34 : Ent Try.prog 34 := fun _ _ => by kernel_rfl
theorem kent35 : Ent Try.prog 35 := fun _ _ => by kernel_rfl
theorem kent27 : Ent Try.prog 27 := fun _ _ => by kernel_rfl
theorem kit36 {Bs l b : Nat} {rec : Loop} {v : Value} {es : List (Edge × Bool)} (hbd : es.length * 24 ≤ 140737488355328) (A : ApRec 62 67 Bs rec) : S.Spec Try.prog 36 [.lit (.func (.yield l) #[] #[]), .fptr [.lit (.map (some b))]] [.mp kvEdge (fun x : Bool => Value.bool x) b es, .box Bs [.sv v], .own 67 cEdge v [], .obj l (.loop rec)]
    fun _ H => ∃ v' ss, ss.Perm (es.map (·.1)) ∧ H = [.mp kvEdge (fun x : Bool => Value.bool x) b es, .box Bs [.sv v'], .own 67 cEdge v' ss, .obj l (.loop rec)] := keysIter kty25 A hbd Try.func36 rfl rfl rfl
theorem kap46 {b : Nat} {es : List (Edge × Bool)} (hbd : es.length * 24 ≤ 140737488355328) : S.Spec Try.prog 46 [.lit (.slice none 0 0), .keys 36 b] [.mp kvEdge (fun x : Bool => Value.bool x) b es] (KeysPost 67 cEdge kvEdge (fun x : Bool => Value.bool x) b es) := appendSeq kty25 kent36 (fun A => kit36 hbd A) Try.func46 rfl rfl rfl
theorem kco34 {b : Nat} {es : List (Edge × Bool)} (hbd : es.length * 24 ≤ 140737488355328) : S.Spec Try.prog 34 [.keys 36 b] [.mp kvEdge (fun x : Bool => Value.bool x) b es] (KeysPost 67 cEdge kvEdge (fun x : Bool => Value.bool x) b es) := collectFn kent46 (kap46 hbd) Try.func34 rfl rfl rfl
theorem keys26 {b : Nat} : Pure Try.prog 26 [.lit (.map (some b))] (some ()) fun _ => .keys 36 b := keysFn Try.func26 rfl rfl rfl
theorem kcmp27 (x y : Edge) : Pure Try.prog 27 [.agg (cEdge.e x), .agg (cEdge.e y)] (some (rowC x y)) fun r => Ai .i64 r := by
  have h := deps_row_ok 10 x y
  rw [row_eq 10 (Nat.le_refl _)] at h
  exact h
theorem kone67 (x : Edge) : ∀ v ∈ litsEdge x, v.oneCell' = true := by intro v hv; simp [litsEdge] at hv; rcases hv with rfl | rfl | rfl <;> rfl
theorem sorted25 {K b : Nat} {es : List (Edge × Bool)} (_ : 10 ≤ K) (hbd : es.length * 24 ≤ 140737488355328) : Hands Try.prog 25 [.keys 36 b, .lit (.func (.func 27) #[] #[])] [.mp kvEdge (fun x : Bool => Value.bool x) b es] (some ()) (fun _ v => .sv v) (fun _ v => [.own 67 cEdge v (sortL rowC (es.map (·.1))), .mp kvEdge (fun x : Bool => Value.bool x) b es]) := by
  intro r _ w F Z vs hvs hi
  refine (sortedFn (Sd := SortedBy rowC) kent34 kent35 (kco34 hbd) (fun v ss hp => sortFn sort35 (c := cEdge) (lits := litsEdge) (fun _ => rfl) kone67 kgE25 kzE25 rowC_swo kent27 kcmp27 (by have := hp.length_eq; simp at this; omega)) Try.func25 rfl rfl rfl w F Z vs hvs hi).mono ?_
  rintro e w' ⟨v, he, F', Z', av, H', ⟨v1, ys, rfl, hp, hs, rfl⟩, h1, h2⟩
  exact ⟨v, he, F', Z', _, _, ⟨v1, rfl, by rw [sortL_is rowC_swo rowC_anti hp hs]⟩, h1, h2⟩
end Go.Proofs.Ytpjhcllohagjoaa
