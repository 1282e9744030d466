/-
  The types of the program, their codecs, facts on types and functions. Own work, written by a program of this session's (gen.py).
-/
import Derived.Test.YtbdlnjbioepmhaaSL
import Derived.Test.YtbdlnjbioepmhaaProg
namespace Go.Proofs.Ytbdlnjbioepmhaa
open S
set_option linter.unusedVariables false

structure Gauss where
  Re : Int
  Im : Int
  deriving DecidableEq
def zGauss : Gauss := ⟨(0 : Int), (0 : Int)⟩
instance : Inhabited Gauss := ⟨zGauss⟩
def cGauss : Co Gauss := ⟨fun x => [Ai .i64 x.Re, Ai .i64 x.Im], 2, by decide, fun _ => rfl, fun _ => ⟨oLit rfl, oLit rfl, trivial⟩⟩
structure Branch where
  Name : Int
  Rule : Int
  I : Int
  J : Int
  Kids : Int
  deriving DecidableEq
def zBranch : Branch := ⟨(0 : Int), (0 : Int), (0 : Int), (0 : Int), (0 : Int)⟩
instance : Inhabited Branch := ⟨zBranch⟩
def cBranch : Co Branch := ⟨fun x => [Ai .i64 x.Name, Ai .i64 x.Rule, Ai .i64 x.I, Ai .i64 x.J, Ai .i64 x.Kids], 5, by decide, fun _ => rfl, fun _ => ⟨oLit rfl, oLit rfl, oLit rfl, oLit rfl, oLit rfl, trivial⟩⟩

theorem z50 : SizeIs Try.prog 50 5 := fun _ => by kernel_rfl
theorem info50 : Info Try.prog 50 (.agg #[.int .i64 0, .int .i64 0, .int .i64 0, .int .i64 0, .int .i64 0]) 5 40 := by unfold Info; kernel_rfl
theorem ent27 : Ent Try.prog 27 := fun _ _ => by kernel_rfl
theorem zv50 : ∀ w, (zeroValue 50).run Try.prog w = .ok (.agg ([.int .i64 0, .int .i64 0, .int .i64 0, .int .i64 0, .int .i64 0] : List Value).toArray) w := fun _ => by kernel_rfl
theorem pl50 : ∀ w, ((#[{ name := "Name", type := 3, offset := 0, embedded := false, tag := "", pkgPath := "", byteOffset := 0 }, { name := "Rule", type := 3, offset := 1, embedded := false, tag := "", pkgPath := "", byteOffset := 8 }, { name := "I", type := 3, offset := 2, embedded := false, tag := "", pkgPath := "", byteOffset := 16 }, { name := "J", type := 3, offset := 3, embedded := false, tag := "", pkgPath := "", byteOffset := 24 }, { name := "Kids", type := 3, offset := 4, embedded := false, tag := "", pkgPath := "", byteOffset := 32 }] : Array Field).mapM (m := Sem) fun f => do pure (f.offset, ← sizeOf f.type)).run Try.prog w = .ok #[(0, 1), (1, 1), (2, 1), (3, 1), (4, 1)] w := fun _ => by kernel_rfl
theorem z3 : SizeIs Try.prog 3 1 := fun _ => by kernel_rfl
theorem info3 : Info Try.prog 3 (.int .i64 0) 1 8 := by unfold Info; kernel_rfl
theorem ent28 : Ent Try.prog 28 := fun _ _ => by kernel_rfl
theorem z23 : SizeIs Try.prog 23 2 := fun _ => by kernel_rfl
theorem info23 : Info Try.prog 23 (.agg #[.int .i64 0, .int .i64 0]) 2 16 := by unfold Info; kernel_rfl
theorem ent29 : Ent Try.prog 29 := fun _ _ => by kernel_rfl
theorem zv23 : ∀ w, (zeroValue 23).run Try.prog w = .ok (.agg ([.int .i64 0, .int .i64 0] : List Value).toArray) w := fun _ => by kernel_rfl
theorem pl23 : ∀ w, ((#[{ name := "Re", type := 3, offset := 0, embedded := false, tag := "", pkgPath := "", byteOffset := 0 }, { name := "Im", type := 3, offset := 1, embedded := false, tag := "", pkgPath := "", byteOffset := 8 }] : Array Field).mapM (m := Sem) fun f => do pure (f.offset, ← sizeOf f.type)).run Try.prog w = .ok #[(0, 1), (1, 1)] w := fun _ => by kernel_rfl
theorem al23 : ∀ w, (Instr.alloc 23 true (.tuple #[])).run Try.prog w = .ok (.pointer (some ⟨w.heap.size, 0, none⟩)) (w.alloc (.cells ([.int .i64 0, .int .i64 0] : List Value).toArray 23)) := fun _ => by kernel_rfl
theorem g23 : IsAgg Try.prog 23 true := fun _ => by kernel_rfl
theorem ent30 : Ent Try.prog 30 := fun _ _ => by kernel_rfl
theorem ent31 : Ent Try.prog 31 := fun _ _ => by kernel_rfl
theorem ent19 : Ent Try.prog 19 := fun _ _ => by kernel_rfl
def litsGauss (x : Gauss) : List Value := [.int .i64 x.Re, .int .i64 x.Im]
theorem g3 : IsAgg Try.prog 3 false := fun _ => by kernel_rfl
theorem eqi23 {d : Nat} (w : World) (x y : Gauss) : (Op.equalIn (d + 2) 23 (.agg (litsGauss x).toArray) (.agg (litsGauss y).toArray)).run Try.prog w = .ok (decide (x = y)) w := by
  have hu : Try.prog.underlying 23 = some (.struct (Try.prog.fieldsOf 23)) := by kernel_rfl
  have hp : Try.prog.stoodInHeld 23 = false := by kernel_rfl
  have hf : (Try.prog.fieldsOf 23).toList = [{ name := "Re", type := 3, offset := 0, embedded := false, tag := "", pkgPath := "", byteOffset := 0 }, { name := "Im", type := 3, offset := 1, embedded := false, tag := "", pkgPath := "", byteOffset := 8 }] := by kernel_rfl
  rw [run_equalIn_struct w _ 23 _ _ hu hp, hf]
  rw [eqF_int (a := x.Re) (b := y.Re) (by decide) g3 Try.underlying3 rfl rfl, eqF_int (a := x.Im) (b := y.Im) (by decide) g3 Try.underlying3 rfl rfl, eqF_nil]
  simp only [ok_ite]
  congr 2
  cases x; cases y; simp
theorem eq23 {n : Nat} {fr : Fr} {H : List Res} {t' ty : TypeId} {a b : Operand} {x y : Gauss} (hx : arg fr a = some (.agg (cGauss.e x))) (hy : arg fr b = some (.agg (cGauss.e y))) : D Try.prog n H (.binOp .eql 23 a b t') ty fr (Ab (decide (x = y))) := dEqSt litsGauss (by kernel_rfl) (fun _ => rfl) (fun w x y => eqi23 (d := 9998) w x y) hx hy
theorem eq23n {n : Nat} {fr : Fr} {H : List Res} {t' ty : TypeId} {a b : Operand} {x y : Gauss} (hx : arg fr a = some (.agg (cGauss.e x))) (hy : arg fr b = some (.agg (cGauss.e y))) : D Try.prog n H (.binOp .neq 23 a b t') ty fr (Ab (decide (x ≠ y))) := dNeSt litsGauss (by kernel_rfl) (fun _ => rfl) (fun w x y => eqi23 (d := 9998) w x y) hx hy
theorem mixed : Try.prog.follows .mixedOrders = true := by kernel_rfl
theorem ent20 : Ent Try.prog 20 := fun _ _ => by kernel_rfl
theorem g50 : IsAgg Try.prog 50 true := fun _ => by kernel_rfl
theorem al50 : ∀ w, (Instr.alloc 50 true (.tuple #[])).run Try.prog w = .ok (.pointer (some ⟨w.heap.size, 0, none⟩)) (w.alloc (.cells ([.int .i64 0, .int .i64 0, .int .i64 0, .int .i64 0, .int .i64 0] : List Value).toArray 50)) := fun _ => by kernel_rfl
theorem fa50_1 : FA Try.prog 50 1 1 := fun _ _ => by kernel_rfl
theorem fa23_0 : FA Try.prog 23 0 0 := fun _ _ => by kernel_rfl
theorem fa23_1 : FA Try.prog 23 1 1 := fun _ _ => by kernel_rfl
theorem zv63 : ∀ w, (zeroValue 63).run Try.prog w = .ok (.agg ([.int .i64 0, .int .i64 0] : List Value).toArray) w := fun _ => by kernel_rfl
theorem ent32 : Ent Try.prog 32 := fun _ _ => by kernel_rfl
theorem ent33 : Ent Try.prog 33 := fun _ _ => by kernel_rfl
theorem ent34 : Ent Try.prog 34 := fun _ _ => by kernel_rfl
def litsBranch (x : Branch) : List Value := [.int .i64 x.Name, .int .i64 x.Rule, .int .i64 x.I, .int .i64 x.J, .int .i64 x.Kids]
theorem eqi50 {d : Nat} (w : World) (x y : Branch) : (Op.equalIn (d + 2) 50 (.agg (litsBranch x).toArray) (.agg (litsBranch y).toArray)).run Try.prog w = .ok (decide (x = y)) w := by
  have hu : Try.prog.underlying 50 = some (.struct (Try.prog.fieldsOf 50)) := by kernel_rfl
  have hp : Try.prog.stoodInHeld 50 = false := by kernel_rfl
  have hf : (Try.prog.fieldsOf 50).toList = [{ name := "Name", type := 3, offset := 0, embedded := false, tag := "", pkgPath := "", byteOffset := 0 }, { name := "Rule", type := 3, offset := 1, embedded := false, tag := "", pkgPath := "", byteOffset := 8 }, { name := "I", type := 3, offset := 2, embedded := false, tag := "", pkgPath := "", byteOffset := 16 }, { name := "J", type := 3, offset := 3, embedded := false, tag := "", pkgPath := "", byteOffset := 24 }, { name := "Kids", type := 3, offset := 4, embedded := false, tag := "", pkgPath := "", byteOffset := 32 }] := by kernel_rfl
  rw [run_equalIn_struct w _ 50 _ _ hu hp, hf]
  rw [eqF_int (a := x.Name) (b := y.Name) (by decide) g3 Try.underlying3 rfl rfl, eqF_int (a := x.Rule) (b := y.Rule) (by decide) g3 Try.underlying3 rfl rfl, eqF_int (a := x.I) (b := y.I) (by decide) g3 Try.underlying3 rfl rfl, eqF_int (a := x.J) (b := y.J) (by decide) g3 Try.underlying3 rfl rfl, eqF_int (a := x.Kids) (b := y.Kids) (by decide) g3 Try.underlying3 rfl rfl, eqF_nil]
  simp only [ok_ite]
  congr 2
  cases x; cases y; simp
theorem eq50 {n : Nat} {fr : Fr} {H : List Res} {t' ty : TypeId} {a b : Operand} {x y : Branch} (hx : arg fr a = some (.agg (cBranch.e x))) (hy : arg fr b = some (.agg (cBranch.e y))) : D Try.prog n H (.binOp .eql 50 a b t') ty fr (Ab (decide (x = y))) := dEqSt litsBranch (by kernel_rfl) (fun _ => rfl) (fun w x y => eqi50 (d := 9998) w x y) hx hy
theorem eq50n {n : Nat} {fr : Fr} {H : List Res} {t' ty : TypeId} {a b : Operand} {x y : Branch} (hx : arg fr a = some (.agg (cBranch.e x))) (hy : arg fr b = some (.agg (cBranch.e y))) : D Try.prog n H (.binOp .neq 50 a b t') ty fr (Ab (decide (x ≠ y))) := dNeSt litsBranch (by kernel_rfl) (fun _ => rfl) (fun w x y => eqi50 (d := 9998) w x y) hx hy
theorem ent35 : Ent Try.prog 35 := fun _ _ => by kernel_rfl
theorem ent36 : Ent Try.prog 36 := fun _ _ => by kernel_rfl
theorem ent37 : Ent Try.prog 37 := fun _ _ => by kernel_rfl
theorem ent13 : Ent Try.prog 13 := fun _ _ => by kernel_rfl
theorem ent15 : Ent Try.prog 15 := fun _ _ => by kernel_rfl
theorem ent17 : Ent Try.prog 17 := fun _ _ => by kernel_rfl
theorem ent21 : Ent Try.prog 21 := fun _ _ => by kernel_rfl
theorem ent10 : Ent Try.prog 10 := fun _ _ => by kernel_rfl
theorem ent11 : Ent Try.prog 11 := fun _ _ => by kernel_rfl
theorem ent12 : Ent Try.prog 12 := fun _ _ => by kernel_rfl
theorem ent14 : Ent Try.prog 14 := fun _ _ => by kernel_rfl
theorem ent16 : Ent Try.prog 16 := fun _ _ => by kernel_rfl
theorem ent18 : Ent Try.prog 18 := fun _ _ => by kernel_rfl
theorem ent22 : Ent Try.prog 22 := fun _ _ => by kernel_rfl
theorem ent23 : Ent Try.prog 23 := fun _ _ => by kernel_rfl
theorem ent24 : Ent Try.prog 24 := fun _ _ => by kernel_rfl
theorem ent25 : Ent Try.prog 25 := fun _ _ => by kernel_rfl
theorem ent26 : Ent Try.prog 26 := fun _ _ => by kernel_rfl
end Go.Proofs.Ytbdlnjbioepmhaa
