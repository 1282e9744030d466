/-
  The types of the program, their codecs, facts on types and functions. Own work, written by a program of this session's (gen.py).
-/
import Derived.Test.YtmjhdhjijbmigaaSM
import Derived.Test.YtmjhdhjijbmigaaProg
namespace Go.Proofs.Ytmjhdhjijbmigaa
open S
set_option linter.unusedVariables false

structure Edge where
  From : Int
  To : Int
  Neg : Bool
  deriving DecidableEq
def zEdge : Edge := ⟨(0 : Int), (0 : Int), false⟩
instance : Inhabited Edge := ⟨zEdge⟩
def cEdge : Co Edge := ⟨fun x => [Ai .i64 x.From, Ai .i64 x.To, Ab x.Neg], 3, by decide, fun _ => rfl, fun _ => ⟨oLit rfl, oLit rfl, oLit rfl, trivial⟩⟩

theorem z37 : SizeIs Try.prog 37 3 := fun _ => by kernel_rfl
theorem info37 : Info Try.prog 37 (.agg #[.int .i64 0, .int .i64 0, .bool false]) 3 24 := by unfold Info; kernel_rfl
theorem ent25 : Ent Try.prog 25 := fun _ _ => by kernel_rfl
theorem zv37 : ∀ w, (zeroValue 37).run Try.prog w = .ok (.agg ([.int .i64 0, .int .i64 0, .bool false] : List Value).toArray) w := fun _ => by kernel_rfl
theorem pl37 : ∀ w, ((#[{ name := "From", type := 3, offset := 0, embedded := false, tag := "", pkgPath := "", byteOffset := 0 }, { name := "To", type := 3, offset := 1, embedded := false, tag := "", pkgPath := "", byteOffset := 8 }, { name := "Neg", type := 4, offset := 2, embedded := false, tag := "", pkgPath := "", byteOffset := 16 }] : Array Field).mapM (m := Sem) fun f => do pure (f.offset, ← sizeOf f.type)).run Try.prog w = .ok #[(0, 1), (1, 1), (2, 1)] w := fun _ => by kernel_rfl
theorem g37 : IsAgg Try.prog 37 true := fun _ => by kernel_rfl
theorem al37 : ∀ w, (Instr.alloc 37 true (.tuple #[])).run Try.prog w = .ok (.pointer (some ⟨w.heap.size, 0, none⟩)) (w.alloc (.cells ([.int .i64 0, .int .i64 0, .bool false] : List Value).toArray 37)) := fun _ => by kernel_rfl
theorem fa37_0 : FA Try.prog 37 0 0 := fun _ _ => by kernel_rfl
theorem g3 : IsAgg Try.prog 3 false := fun _ => by kernel_rfl
theorem fa37_1 : FA Try.prog 37 1 1 := fun _ _ => by kernel_rfl
theorem info44 : Info Try.prog 44 (.int .u64 0) 1 8 := by unfold Info; kernel_rfl
theorem z44 : SizeIs Try.prog 44 1 := fun _ => by kernel_rfl
theorem g44 : IsAgg Try.prog 44 false := fun _ => by kernel_rfl
theorem mixed : Try.prog.follows .mixedOrders = true := by kernel_rfl
theorem ent26 : Ent Try.prog 26 := fun _ _ => by kernel_rfl
theorem ent27 : Ent Try.prog 27 := fun _ _ => by kernel_rfl
theorem info3 : Info Try.prog 3 (.int .i64 0) 1 8 := by unfold Info; kernel_rfl
theorem z3 : SizeIs Try.prog 3 1 := fun _ => by kernel_rfl
theorem info4 : Info Try.prog 4 (.bool false) 1 1 := by unfold Info; kernel_rfl
theorem z4 : SizeIs Try.prog 4 1 := fun _ => by kernel_rfl
theorem g4 : IsAgg Try.prog 4 false := fun _ => by kernel_rfl
theorem ent28 : Ent Try.prog 28 := fun _ _ => by kernel_rfl
theorem ent29 : Ent Try.prog 29 := fun _ _ => by kernel_rfl
theorem z46 : SizeIs Try.prog 46 1 := fun _ => by kernel_rfl
theorem info46 : Info Try.prog 46 (.slice none 0 0) 1 24 := by unfold Info; kernel_rfl
theorem g46 : IsAgg Try.prog 46 false := fun _ => by kernel_rfl
def litsEdge (x : Edge) : List Value := [.int .i64 x.From, .int .i64 x.To, .bool x.Neg]
theorem eqi37 {d : Nat} (w : World) (x y : Edge) : (Op.equalIn (d + 2) 37 (.agg (litsEdge x).toArray) (.agg (litsEdge y).toArray)).run Try.prog w = .ok (decide (x = y)) w := by
  have hu : Try.prog.underlying 37 = some (.struct (Try.prog.fieldsOf 37)) := by kernel_rfl
  have hp : Try.prog.stoodInHeld 37 = false := by kernel_rfl
  have hf : (Try.prog.fieldsOf 37).toList = [{ name := "From", type := 3, offset := 0, embedded := false, tag := "", pkgPath := "", byteOffset := 0 }, { name := "To", type := 3, offset := 1, embedded := false, tag := "", pkgPath := "", byteOffset := 8 }, { name := "Neg", type := 4, offset := 2, embedded := false, tag := "", pkgPath := "", byteOffset := 16 }] := by kernel_rfl
  rw [run_equalIn_struct w _ 37 _ _ hu hp, hf]
  rw [eqF_int (a := x.From) (b := y.From) (by decide) g3 Try.underlying3 rfl rfl, eqF_int (a := x.To) (b := y.To) (by decide) g3 Try.underlying3 rfl rfl, eqF_bool (a := x.Neg) (b := y.Neg) (by decide) g4 Try.underlying4 rfl rfl, eqF_nil]
  simp only [ok_ite]
  congr 2
  cases x; cases y; simp
theorem eq37 {n : Nat} {fr : Fr} {H : List Res} {t' ty : TypeId} {a b : Operand} {x y : Edge} (hx : arg fr a = some (.agg (cEdge.e x))) (hy : arg fr b = some (.agg (cEdge.e y))) : D Try.prog n H (.binOp .eql 37 a b t') ty fr (Ab (decide (x = y))) := dEqSt litsEdge (by kernel_rfl) (fun _ => rfl) (fun w x y => eqi37 (d := 9998) w x y) hx hy
theorem eq37n {n : Nat} {fr : Fr} {H : List Res} {t' ty : TypeId} {a b : Operand} {x y : Edge} (hx : arg fr a = some (.agg (cEdge.e x))) (hy : arg fr b = some (.agg (cEdge.e y))) : D Try.prog n H (.binOp .neq 37 a b t') ty fr (Ab (decide (x ≠ y))) := dNeSt litsEdge (by kernel_rfl) (fun _ => rfl) (fun w x y => eqi37 (d := 9998) w x y) hx hy
theorem ent30 : Ent Try.prog 30 := fun _ _ => by kernel_rfl
theorem ent17 : Ent Try.prog 17 := fun _ _ => by kernel_rfl
theorem ent19 : Ent Try.prog 19 := fun _ _ => by kernel_rfl
theorem ent20 : Ent Try.prog 20 := fun _ _ => by kernel_rfl
theorem ent21 : Ent Try.prog 21 := fun _ _ => by kernel_rfl
theorem ent16 : Ent Try.prog 16 := fun _ _ => by kernel_rfl
theorem ent18 : Ent Try.prog 18 := fun _ _ => by kernel_rfl
theorem ent22 : Ent Try.prog 22 := fun _ _ => by kernel_rfl
theorem ent23 : Ent Try.prog 23 := fun _ _ => by kernel_rfl
theorem ent24 : Ent Try.prog 24 := fun _ _ => by kernel_rfl
theorem fa37_2 : FA Try.prog 37 2 2 := fun _ _ => by kernel_rfl
end Go.Proofs.Ytmjhdhjijbmigaa
