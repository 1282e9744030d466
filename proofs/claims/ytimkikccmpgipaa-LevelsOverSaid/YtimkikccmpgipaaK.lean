/-
  maps.Keys and slices.SortedFunc at this program. Own work, written by a program (nk.py).
-/
import Derived.Test.YtimkikccmpgipaaL
import Derived.Test.YtimkikccmpgipaaPRow
namespace Go.Proofs.Ytimkikccmpgipaa
open S
set_option linter.unusedVariables false
set_option maxRecDepth 100000
theorem cLits {κ : Type} {c : Co κ} {lits : κ → List Value} (hl : ∀ x, c.e x = (lits x).map AV.lit) (k : κ) : CellsOf (.lit (.agg (lits k).toArray)) (c.e k) := fun Z w v hv => by
  have hv' : v = .agg (lits k).toArray := hv
  subst hv'
  rw [hl]
  simpa [Value.cells] using allP_of_lits (Z := Z) (w := w) (lits k)
theorem kgM31 : IsAgg Try.prog 68 false := fun _ => by kernel_rfl
theorem kgS31 : IsAgg Try.prog 38 false := fun _ => by kernel_rfl
theorem kgE31 : IsAgg Try.prog 42 true := fun _ => by kernel_rfl
theorem kzS31 : SizeIs Try.prog 38 1 := fun _ => by kernel_rfl
theorem kzE31 : SizeIs Try.prog 42 3 := fun _ => by kernel_rfl
theorem kinfo31 : Info Try.prog 42 (.agg #[.int .i64 0, .int .i64 0, .bool false]) 3 24 := by unfold Info; kernel_rfl
theorem kal31 : ∀ w, (Instr.alloc 42 true (.tuple #[])).run Try.prog w = .ok (.pointer (some ⟨w.heap.size, 0, none⟩)) (w.alloc (.cells ([.int .i64 0, .int .i64 0, .bool false] : List Value).toArray 42)) := fun _ => by kernel_rfl
theorem kty31 : KeysTy Try.prog cEdge kvEdge (fun x : Bool => Value.bool x) 68 42 4 38 [.int .i64 0, .int .i64 0, .bool false] [Ai .i64 0, Ai .i64 0, Ab false] (.agg #[.int .i64 0, .int .i64 0, .bool false]) 24 := {
  ht := Try.underlying68, gM := kgM31, hS := Try.underlying38, gS := kgS31, zS := kzS31, gE := kgE31, zE := kzE31, info := kinfo31, zz := rfl, b0 := (by decide), mx := rfl, al := kal31,
  azp := fun _ _ => .cons rfl (.cons rfl (.cons rfl .nil)), azl := rfl, cell := cLits (lits := litsEdge) (fun _ => rfl) }
theorem kent47 : Ent Try.prog 47 := fun _ _ => by kernel_rfl
theorem kent56 : Ent Try.prog 56 := fun _ _ => by kernel_rfl
theorem kent45 : Ent Try.prog 45 := fun _ _ => by kernel_rfl
theorem kent46 : Ent Try.prog 46 := fun _ _ => by kernel_rfl
theorem kent33 : Ent Try.prog 33 := fun _ _ => by kernel_rfl
theorem kit47 {Bs l b : Nat} {rec : Loop} {v : Value} {es : List (Edge × Bool)} (hbd : es.length * 24 ≤ 140737488355328) (A : ApRec 38 42 Bs rec) : S.Spec Try.prog 47 [.lit (.func (.yield l) #[] #[]), .fptr [.lit (.map (some b))]] [.mp kvEdge (fun x : Bool => Value.bool x) b es, .box Bs [.sv v], .own 42 cEdge v [], .obj l (.loop rec)]
    fun _ H => ∃ v' ss, ss.Perm (es.map (·.1)) ∧ H = [.mp kvEdge (fun x : Bool => Value.bool x) b es, .box Bs [.sv v'], .own 42 cEdge v' ss, .obj l (.loop rec)] := keysIter kty31 A hbd Try.func47 rfl rfl rfl
theorem kap56 {b : Nat} {es : List (Edge × Bool)} (hbd : es.length * 24 ≤ 140737488355328) : S.Spec Try.prog 56 [.lit (.slice none 0 0), .keys 47 b] [.mp kvEdge (fun x : Bool => Value.bool x) b es] (KeysPost 42 cEdge kvEdge (fun x : Bool => Value.bool x) b es) := appendSeq kty31 kent47 (fun A => kit47 hbd A) Try.func56 rfl rfl rfl
theorem kco45 {b : Nat} {es : List (Edge × Bool)} (hbd : es.length * 24 ≤ 140737488355328) : S.Spec Try.prog 45 [.keys 47 b] [.mp kvEdge (fun x : Bool => Value.bool x) b es] (KeysPost 42 cEdge kvEdge (fun x : Bool => Value.bool x) b es) := collectFn kent56 (kap56 hbd) Try.func45 rfl rfl rfl
theorem keys32 {b : Nat} : Pure Try.prog 32 [.lit (.map (some b))] (some ()) fun _ => .keys 47 b := keysFn Try.func32 rfl rfl rfl
theorem kcmp33 (x y : Edge) : Pure Try.prog 33 [.agg (cEdge.e x), .agg (cEdge.e y)] (some (rowC x y)) fun r => Ai .i64 r := by
  have h := deps_row_ok 10 x y
  rw [row_eq 10 (Nat.le_refl _)] at h
  exact h
theorem kone42 (x : Edge) : ∀ v ∈ litsEdge x, v.oneCell' = true := by intro v hv; simp [litsEdge] at hv; rcases hv with rfl | rfl | rfl <;> rfl
theorem sorted31 {K b : Nat} {es : List (Edge × Bool)} (_ : 10 ≤ K) (hbd : es.length * 24 ≤ 140737488355328) : Hands Try.prog 31 [.keys 47 b, .lit (.func (.func 33) #[] #[])] [.mp kvEdge (fun x : Bool => Value.bool x) b es] (some ()) (fun _ v => .sv v) (fun _ v => [.own 42 cEdge v (sortL rowC (es.map (·.1))), .mp kvEdge (fun x : Bool => Value.bool x) b es]) := by
  intro r _ w F Z vs hvs hi
  refine (sortedFn (Sd := SortedBy rowC) kent45 kent46 (kco45 hbd) (fun v ss hp => sortFn sort46 (c := cEdge) (lits := litsEdge) (fun _ => rfl) kone42 kgE31 kzE31 rowC_swo kent33 kcmp33 (by have := hp.length_eq; simp at this; omega)) Try.func31 rfl rfl rfl w F Z vs hvs hi).mono ?_
  rintro e w' ⟨v, he, F', Z', av, H', ⟨v1, ys, rfl, hp, hs, rfl⟩, h1, h2⟩
  exact ⟨v, he, F', Z', _, _, ⟨v1, rfl, by rw [sortL_is rowC_swo rowC_anti hp hs]⟩, h1, h2⟩
end Go.Proofs.Ytimkikccmpgipaa
