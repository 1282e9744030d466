/-
  The types of the program, their codecs, facts on types and functions. Own work, written by a program of this session's (gen.py).
-/
import Derived.Test.YtokccimmgilciaaSO
import Derived.Test.YtokccimmgilciaaSJ
import Derived.Test.YtokccimmgilciaaSR
import Derived.Test.YtokccimmgilciaaProg
namespace Go.Proofs.Ytokccimmgilciaa
open S
set_option linter.unusedVariables false

structure Place where
  Rule : Int
  Conj : Int
  Pos : Int
  deriving DecidableEq
def zPlace : Place := ⟨(0 : Int), (0 : Int), (0 : Int)⟩
instance : Inhabited Place := ⟨zPlace⟩
def cPlace : Co Place := ⟨fun x => [Ai .i64 x.Rule, Ai .i64 x.Conj, Ai .i64 x.Pos], 3, by decide, fun _ => rfl, fun _ => ⟨oLit rfl, oLit rfl, oLit rfl, trivial⟩⟩
structure Pick where
  At : Int
  Conj : Int
  Kids : (List Int)
  deriving DecidableEq
def zPick : Pick := ⟨(0 : Int), (0 : Int), ([] : (List Int))⟩
instance : Inhabited Pick := ⟨zPick⟩
def cPick : Co Pick := ⟨fun x => [Ai .i64 x.At, Ai .i64 x.Conj, .fsl (cI .i64) x.Kids], 3, by decide, fun _ => rfl, fun _ => ⟨oLit rfl, oLit rfl, oFsl, trivial⟩⟩
structure Node where
  Sign : Bool
  Kind : Int
  Name : Int
  Place : Place
  I : Int
  J : Int
  Rank : Int
  Picks : (List Pick)
  deriving DecidableEq
def zNode : Node := ⟨false, (0 : Int), (0 : Int), (zPlace : Place), (0 : Int), (0 : Int), (0 : Int), ([] : (List Pick))⟩
instance : Inhabited Node := ⟨zNode⟩
def cNode : Co Node := ⟨fun x => [Ab x.Sign, Ai .i64 x.Kind, Ai .i64 x.Name, Ai .i64 x.Place.Rule, Ai .i64 x.Place.Conj, Ai .i64 x.Place.Pos, Ai .i64 x.I, Ai .i64 x.J, Ai .i64 x.Rank, .fsl cPick x.Picks], 10, by decide, fun _ => rfl, fun _ => ⟨oLit rfl, oLit rfl, oLit rfl, oLit rfl, oLit rfl, oLit rfl, oLit rfl, oLit rfl, oLit rfl, oFsl, trivial⟩⟩
structure Cert where
  Root : Int
  Nodes : (List Node)
  deriving DecidableEq
def zCert : Cert := ⟨(0 : Int), ([] : (List Node))⟩
instance : Inhabited Cert := ⟨zCert⟩
def cCert : Co Cert := ⟨fun x => [Ai .i64 x.Root, .fsl cNode x.Nodes], 2, by decide, fun _ => rfl, fun _ => ⟨oLit rfl, oFsl, trivial⟩⟩
structure Pack_writer where
  out_ : (List Int)
  bad : Bool
  deriving DecidableEq
def zPack_writer : Pack_writer := ⟨([] : (List Int)), false⟩
instance : Inhabited Pack_writer := ⟨zPack_writer⟩
def cPack_writer : Co Pack_writer := ⟨fun x => [.fsl (cI .u8) x.out_, Ab x.bad], 2, by decide, fun _ => rfl, fun _ => ⟨oFsl, oLit rfl, trivial⟩⟩
structure Pack_reader where
  s : ByteArray
  bad : Bool
  deriving DecidableEq
def zPack_reader : Pack_reader := ⟨(⟨#[]⟩ : ByteArray), false⟩
instance : Inhabited Pack_reader := ⟨zPack_reader⟩
def cPack_reader : Co Pack_reader := ⟨fun x => [.lit (.string x.s), Ab x.bad], 2, by decide, fun _ => rfl, fun _ => ⟨oLit rfl, oLit rfl, trivial⟩⟩
structure Templeref18_reader where
  s : ByteArray
  at_ : Int
  bad : Bool
  deriving DecidableEq
def zTempleref18_reader : Templeref18_reader := ⟨(⟨#[]⟩ : ByteArray), (0 : Int), false⟩
instance : Inhabited Templeref18_reader := ⟨zTempleref18_reader⟩
def cTempleref18_reader : Co Templeref18_reader := ⟨fun x => [.lit (.string x.s), Ai .i64 x.at_, Ab x.bad], 3, by decide, fun _ => rfl, fun _ => ⟨oLit rfl, oLit rfl, oLit rfl, trivial⟩⟩
def cA2_Int_i64 : Co (Int × Int) := ⟨fun x => [Ai .i64 x.1, Ai .i64 x.2], 2, by decide, fun _ => rfl, fun _ => ⟨oLit rfl, oLit rfl, trivial⟩⟩
def wfPlace (x : Place) : Prop := (wfI .i64) x.Rule ∧ (wfI .i64) x.Conj ∧ (wfI .i64) x.Pos
def wfPick (x : Pick) : Prop := (wfI .i64) x.At ∧ (wfI .i64) x.Conj ∧ (wfL (wfI .i64) 8) x.Kids
def wfNode (x : Node) : Prop := wfB x.Sign ∧ (wfI .i64) x.Kind ∧ (wfI .i64) x.Name ∧ wfPlace x.Place ∧ (wfI .i64) x.I ∧ (wfI .i64) x.J ∧ (wfI .i64) x.Rank ∧ (wfL wfPick 40) x.Picks
def wfCert (x : Cert) : Prop := (wfI .i64) x.Root ∧ (wfL wfNode 96) x.Nodes
def wfPack_writer (x : Pack_writer) : Prop := (wfL (wfI .u8) 1) x.out_ ∧ wfB x.bad
def wfPack_reader (x : Pack_reader) : Prop := wfS x.s ∧ wfB x.bad
def wfTempleref18_reader (x : Templeref18_reader) : Prop := wfS x.s ∧ (wfI .i64) x.at_ ∧ wfB x.bad

theorem al24 : ∀ w, (Instr.alloc 24 true (.tuple #[])).run Try.prog w = .ok (.pointer (some ⟨w.heap.size, 0, none⟩)) (w.alloc (.cells ([.int .i64 0, .slice none 0 0] : List Value).toArray 24)) := fun _ => by kernel_rfl
theorem fa24_0 : FA Try.prog 24 0 0 := fun _ _ => by kernel_rfl
theorem g3 : IsAgg Try.prog 3 false := fun _ => by kernel_rfl
theorem zv24 : ∀ w, (zeroValue 24).run Try.prog w = .ok (.agg ([.int .i64 0, .slice none 0 0] : List Value).toArray) w := fun _ => by kernel_rfl
theorem pl24 : ∀ w, ((#[{ name := "Root", type := 3, offset := 0, embedded := false, tag := "", pkgPath := "", byteOffset := 0 }, { name := "Nodes", type := 22, offset := 1, embedded := false, tag := "", pkgPath := "", byteOffset := 8 }] : Array Field).mapM (m := Sem) fun f => do pure (f.offset, ← sizeOf f.type)).run Try.prog w = .ok #[(0, 1), (1, 1)] w := fun _ => by kernel_rfl
theorem z24 : SizeIs Try.prog 24 2 := fun _ => by kernel_rfl
theorem fa24_1 : FA Try.prog 24 1 1 := fun _ _ => by kernel_rfl
theorem g22 : IsAgg Try.prog 22 false := fun _ => by kernel_rfl
theorem z46 : SizeIs Try.prog 46 10 := fun _ => by kernel_rfl
theorem g46 : IsAgg Try.prog 46 true := fun _ => by kernel_rfl
theorem al46 : ∀ w, (Instr.alloc 46 true (.tuple #[])).run Try.prog w = .ok (.pointer (some ⟨w.heap.size, 0, none⟩)) (w.alloc (.cells ([.bool false, .int .i64 0, .int .i64 0, .int .i64 0, .int .i64 0, .int .i64 0, .int .i64 0, .int .i64 0, .int .i64 0, .slice none 0 0] : List Value).toArray 46)) := fun _ => by kernel_rfl
theorem fa46_7 : FA Try.prog 46 7 9 := fun _ _ => by kernel_rfl
theorem z44 : SizeIs Try.prog 44 1 := fun _ => by kernel_rfl
theorem g44 : IsAgg Try.prog 44 false := fun _ => by kernel_rfl
theorem z49 : SizeIs Try.prog 49 3 := fun _ => by kernel_rfl
theorem g49 : IsAgg Try.prog 49 true := fun _ => by kernel_rfl
theorem al49 : ∀ w, (Instr.alloc 49 true (.tuple #[])).run Try.prog w = .ok (.pointer (some ⟨w.heap.size, 0, none⟩)) (w.alloc (.cells ([.int .i64 0, .int .i64 0, .slice none 0 0] : List Value).toArray 49)) := fun _ => by kernel_rfl
theorem z3 : SizeIs Try.prog 3 1 := fun _ => by kernel_rfl
theorem info3 : Info Try.prog 3 (.int .i64 0) 1 8 := by unfold Info; kernel_rfl
theorem fa49_2 : FA Try.prog 49 2 2 := fun _ _ => by kernel_rfl
theorem g47 : IsAgg Try.prog 47 false := fun _ => by kernel_rfl
theorem z47 : SizeIs Try.prog 47 1 := fun _ => by kernel_rfl
theorem info49 : Info Try.prog 49 (.agg #[.int .i64 0, .int .i64 0, .slice none 0 0]) 3 40 := by unfold Info; kernel_rfl
theorem info46 : Info Try.prog 46 (.agg #[.bool false, .int .i64 0, .int .i64 0, .int .i64 0, .int .i64 0, .int .i64 0, .int .i64 0, .int .i64 0, .int .i64 0, .slice none 0 0]) 10 96 := by unfold Info; kernel_rfl
theorem z22 : SizeIs Try.prog 22 1 := fun _ => by kernel_rfl
theorem g24 : IsAgg Try.prog 24 true := fun _ => by kernel_rfl
theorem fa60_1 : FA Try.prog 60 1 1 := fun _ _ => by kernel_rfl
theorem z4 : SizeIs Try.prog 4 1 := fun _ => by kernel_rfl
theorem fa60_0 : FA Try.prog 60 0 0 := fun _ _ => by kernel_rfl
theorem g56 : IsAgg Try.prog 56 false := fun _ => by kernel_rfl
theorem z5 : SizeIs Try.prog 5 1 := fun _ => by kernel_rfl
theorem info5 : Info Try.prog 5 (.int .u8 0) 1 1 := by unfold Info; kernel_rfl
theorem mixed : Try.prog.follows .mixedOrders = true := by kernel_rfl
theorem z56 : SizeIs Try.prog 56 1 := fun _ => by kernel_rfl
theorem z62 : SizeIs Try.prog 62 2 := fun _ => by kernel_rfl
theorem g62 : IsAgg Try.prog 62 true := fun _ => by kernel_rfl
theorem al62 : ∀ w, (Instr.alloc 62 true (.tuple #[])).run Try.prog w = .ok (.pointer (some ⟨w.heap.size, 0, none⟩)) (w.alloc (.cells ([.int .i64 0, .int .i64 0] : List Value).toArray 62)) := fun _ => by kernel_rfl
theorem ia62_i64_0 : IA Try.prog 62 .i64 0 0 := fun _ _ => by kernel_rfl
theorem ia62_i64_1 : IA Try.prog 62 .i64 1 1 := fun _ _ => by kernel_rfl
theorem ent36 : Ent Try.prog 36 := fun _ _ => by kernel_rfl
theorem fa46_1 : FA Try.prog 46 1 1 := fun _ _ => by kernel_rfl
theorem fa46_3 : FA Try.prog 46 3 3 := fun _ _ => by kernel_rfl
theorem g43 : IsAgg Try.prog 43 true := fun _ => by kernel_rfl
theorem z43 : SizeIs Try.prog 43 3 := fun _ => by kernel_rfl
theorem zv43 : ∀ w, (zeroValue 43).run Try.prog w = .ok (.agg ([.int .i64 0, .int .i64 0, .int .i64 0] : List Value).toArray) w := fun _ => by kernel_rfl
theorem pl43 : ∀ w, ((#[{ name := "Rule", type := 3, offset := 0, embedded := false, tag := "", pkgPath := "", byteOffset := 0 }, { name := "Conj", type := 3, offset := 1, embedded := false, tag := "", pkgPath := "", byteOffset := 8 }, { name := "Pos", type := 3, offset := 2, embedded := false, tag := "", pkgPath := "", byteOffset := 16 }] : Array Field).mapM (m := Sem) fun f => do pure (f.offset, ← sizeOf f.type)).run Try.prog w = .ok #[(0, 1), (1, 1), (2, 1)] w := fun _ => by kernel_rfl
def litsPlace (x : Place) : List Value := [.int .i64 x.Rule, .int .i64 x.Conj, .int .i64 x.Pos]
theorem eqi43 {d : Nat} (w : World) (x y : Place) : (Op.equalIn (d + 2) 43 (.agg (litsPlace x).toArray) (.agg (litsPlace y).toArray)).run Try.prog w = .ok (decide (x = y)) w := by
  have hu : Try.prog.underlying 43 = some (.struct (Try.prog.fieldsOf 43)) := by kernel_rfl
  have hp : Try.prog.stoodInHeld 43 = false := by kernel_rfl
  have hf : (Try.prog.fieldsOf 43).toList = [{ name := "Rule", type := 3, offset := 0, embedded := false, tag := "", pkgPath := "", byteOffset := 0 }, { name := "Conj", type := 3, offset := 1, embedded := false, tag := "", pkgPath := "", byteOffset := 8 }, { name := "Pos", type := 3, offset := 2, embedded := false, tag := "", pkgPath := "", byteOffset := 16 }] := by kernel_rfl
  rw [run_equalIn_struct w _ 43 _ _ hu hp, hf]
  rw [eqF_int (f := { name := "Rule", type := 3, offset := 0, embedded := false, tag := "", pkgPath := "", byteOffset := 0 }) (a := x.Rule) (b := y.Rule) (by decide +kernel) g3 Try.underlying3 rfl rfl, eqF_int (f := { name := "Conj", type := 3, offset := 1, embedded := false, tag := "", pkgPath := "", byteOffset := 8 }) (a := x.Conj) (b := y.Conj) (by decide +kernel) g3 Try.underlying3 rfl rfl, eqF_int (f := { name := "Pos", type := 3, offset := 2, embedded := false, tag := "", pkgPath := "", byteOffset := 16 }) (a := x.Pos) (b := y.Pos) (by decide +kernel) g3 Try.underlying3 rfl rfl, eqF_nil]
  simp only [ok_ite]
  exact congrArg (fun b => Result.ok b w) (decide_eq_decide.2 ⟨fun h => by cases x; cases y; simp_all, fun h => by subst h; simp⟩)
theorem eq43 {n : Nat} {fr : Fr} {H : List Res} {t' ty : TypeId} {a b : Operand} {x y : Place} (hx : arg fr a = some (.agg (cPlace.e x))) (hy : arg fr b = some (.agg (cPlace.e y))) : D Try.prog n H (.binOp .eql 43 a b t') ty fr (Ab (decide (x = y))) := dEqSt litsPlace (by kernel_rfl) (fun _ => rfl) (fun w x y => eqi43 (d := 9998) w x y) hx hy
theorem eq43n {n : Nat} {fr : Fr} {H : List Res} {t' ty : TypeId} {a b : Operand} {x y : Place} (hx : arg fr a = some (.agg (cPlace.e x))) (hy : arg fr b = some (.agg (cPlace.e y))) : D Try.prog n H (.binOp .neq 43 a b t') ty fr (Ab (decide (x ≠ y))) := dNeSt litsPlace (by kernel_rfl) (fun _ => rfl) (fun w x y => eqi43 (d := 9998) w x y) hx hy
theorem fa46_2 : FA Try.prog 46 2 2 := fun _ _ => by kernel_rfl
theorem g4 : IsAgg Try.prog 4 false := fun _ => by kernel_rfl
theorem ent37 : Ent Try.prog 37 := fun _ _ => by kernel_rfl
theorem fa46_0 : FA Try.prog 46 0 0 := fun _ _ => by kernel_rfl
theorem ent38 : Ent Try.prog 38 := fun _ _ => by kernel_rfl
theorem zv62 : ∀ w, (zeroValue 62).run Try.prog w = .ok (.agg ([.int .i64 0, .int .i64 0] : List Value).toArray) w := fun _ => by kernel_rfl
theorem fa43_0 : FA Try.prog 43 0 0 := fun _ _ => by kernel_rfl
theorem fa43_1 : FA Try.prog 43 1 1 := fun _ _ => by kernel_rfl
theorem fa43_2 : FA Try.prog 43 2 2 := fun _ _ => by kernel_rfl
theorem info62 : Info Try.prog 62 (.agg #[.int .i64 0, .int .i64 0]) 2 16 := by unfold Info; kernel_rfl
theorem ent20 : Ent Try.prog 20 := fun _ _ => by kernel_rfl
theorem fa46_4 : FA Try.prog 46 4 6 := fun _ _ => by kernel_rfl
theorem fa46_5 : FA Try.prog 46 5 7 := fun _ _ => by kernel_rfl
theorem fa46_6 : FA Try.prog 46 6 8 := fun _ _ => by kernel_rfl
theorem fa49_0 : FA Try.prog 49 0 0 := fun _ _ => by kernel_rfl
theorem fa49_1 : FA Try.prog 49 1 1 := fun _ _ => by kernel_rfl
theorem zv60 : ∀ w, (zeroValue 60).run Try.prog w = .ok (.agg ([.slice none 0 0, .bool false] : List Value).toArray) w := fun _ => by kernel_rfl
theorem pl60 : ∀ w, ((#[{ name := "out", type := 56, offset := 0, embedded := false, tag := "", pkgPath := "temple/pack", byteOffset := 0 }, { name := "bad", type := 4, offset := 1, embedded := false, tag := "", pkgPath := "temple/pack", byteOffset := 24 }] : Array Field).mapM (m := Sem) fun f => do pure (f.offset, ← sizeOf f.type)).run Try.prog w = .ok #[(0, 1), (1, 1)] w := fun _ => by kernel_rfl
theorem ent21 : Ent Try.prog 21 := fun _ _ => by kernel_rfl
theorem ent22 : Ent Try.prog 22 := fun _ _ => by kernel_rfl
theorem ent39 : Ent Try.prog 39 := fun _ _ => by kernel_rfl
theorem ent23 : Ent Try.prog 23 := fun _ _ => by kernel_rfl
theorem ent24 : Ent Try.prog 24 := fun _ _ => by kernel_rfl
theorem ent25 : Ent Try.prog 25 := fun _ _ => by kernel_rfl
theorem ent26 : Ent Try.prog 26 := fun _ _ => by kernel_rfl
theorem ent46 : Ent Try.prog 46 := fun _ _ => by kernel_rfl
theorem ent40 : Ent Try.prog 40 := fun _ _ => by kernel_rfl
theorem fa72_1 : FA Try.prog 72 1 1 := fun _ _ => by kernel_rfl
theorem fa72_0 : FA Try.prog 72 0 0 := fun _ _ => by kernel_rfl
theorem g9 : IsAgg Try.prog 9 false := fun _ => by kernel_rfl
theorem z9 : SizeIs Try.prog 9 1 := fun _ => by kernel_rfl
theorem ent28 : Ent Try.prog 28 := fun _ _ => by kernel_rfl
theorem ni3 : NoIface Try.prog 3 := ⟨_, Try.underlying3, by intro ms h; cases h⟩
theorem z20 : SizeIs Try.prog 20 1 := fun _ => by kernel_rfl
theorem g20 : IsAgg Try.prog 20 false := fun _ => by kernel_rfl
theorem ent51 : Ent Try.prog 51 := fun _ _ => by kernel_rfl
theorem zv49 : ∀ w, (zeroValue 49).run Try.prog w = .ok (.agg ([.int .i64 0, .int .i64 0, .slice none 0 0] : List Value).toArray) w := fun _ => by kernel_rfl
theorem pl49 : ∀ w, ((#[{ name := "At", type := 3, offset := 0, embedded := false, tag := "", pkgPath := "", byteOffset := 0 }, { name := "Conj", type := 3, offset := 1, embedded := false, tag := "", pkgPath := "", byteOffset := 8 }, { name := "Kids", type := 47, offset := 2, embedded := false, tag := "", pkgPath := "", byteOffset := 16 }] : Array Field).mapM (m := Sem) fun f => do pure (f.offset, ← sizeOf f.type)).run Try.prog w = .ok #[(0, 1), (1, 1), (2, 1)] w := fun _ => by kernel_rfl
theorem ent49 : Ent Try.prog 49 := fun _ _ => by kernel_rfl
theorem info20 : Info Try.prog 20 (.nilIface) 1 16 := by unfold Info; kernel_rfl
theorem ent30 : Ent Try.prog 30 := fun _ _ => by kernel_rfl
theorem ent48 : Ent Try.prog 48 := fun _ _ => by kernel_rfl
theorem ni49 : NoIface Try.prog 49 := ⟨_, Try.underlying49, by intro ms h; cases h⟩
theorem ent47 : Ent Try.prog 47 := fun _ _ => by kernel_rfl
theorem zv46 : ∀ w, (zeroValue 46).run Try.prog w = .ok (.agg ([.bool false, .int .i64 0, .int .i64 0, .int .i64 0, .int .i64 0, .int .i64 0, .int .i64 0, .int .i64 0, .int .i64 0, .slice none 0 0] : List Value).toArray) w := fun _ => by kernel_rfl
theorem pl46 : ∀ w, ((#[{ name := "Sign", type := 4, offset := 0, embedded := false, tag := "", pkgPath := "", byteOffset := 0 }, { name := "Kind", type := 3, offset := 1, embedded := false, tag := "", pkgPath := "", byteOffset := 8 }, { name := "Name", type := 3, offset := 2, embedded := false, tag := "", pkgPath := "", byteOffset := 16 }, { name := "Place", type := 43, offset := 3, embedded := false, tag := "", pkgPath := "", byteOffset := 24 }, { name := "I", type := 3, offset := 6, embedded := false, tag := "", pkgPath := "", byteOffset := 48 }, { name := "J", type := 3, offset := 7, embedded := false, tag := "", pkgPath := "", byteOffset := 56 }, { name := "Rank", type := 3, offset := 8, embedded := false, tag := "", pkgPath := "", byteOffset := 64 }, { name := "Picks", type := 44, offset := 9, embedded := false, tag := "", pkgPath := "", byteOffset := 72 }] : Array Field).mapM (m := Sem) fun f => do pure (f.offset, ← sizeOf f.type)).run Try.prog w = .ok #[(0, 1), (1, 1), (2, 1), (3, 3), (6, 1), (7, 1), (8, 1), (9, 1)] w := fun _ => by kernel_rfl
theorem ent43 : Ent Try.prog 43 := fun _ _ => by kernel_rfl
theorem ent42 : Ent Try.prog 42 := fun _ _ => by kernel_rfl
theorem ni46 : NoIface Try.prog 46 := ⟨_, Try.underlying46, by intro ms h; cases h⟩
theorem ent41 : Ent Try.prog 41 := fun _ _ => by kernel_rfl
theorem ent27 : Ent Try.prog 27 := fun _ _ => by kernel_rfl
theorem zv72 : ∀ w, (zeroValue 72).run Try.prog w = .ok (.agg ([.string ⟨#[]⟩, .bool false] : List Value).toArray) w := fun _ => by kernel_rfl
theorem pl72 : ∀ w, ((#[{ name := "s", type := 9, offset := 0, embedded := false, tag := "", pkgPath := "temple/pack", byteOffset := 0 }, { name := "bad", type := 4, offset := 1, embedded := false, tag := "", pkgPath := "temple/pack", byteOffset := 16 }] : Array Field).mapM (m := Sem) fun f => do pure (f.offset, ← sizeOf f.type)).run Try.prog w = .ok #[(0, 1), (1, 1)] w := fun _ => by kernel_rfl
theorem ent31 : Ent Try.prog 31 := fun _ _ => by kernel_rfl
theorem ent29 : Ent Try.prog 29 := fun _ _ => by kernel_rfl
theorem fa80_2 : FA Try.prog 80 2 2 := fun _ _ => by kernel_rfl
theorem fa80_0 : FA Try.prog 80 0 0 := fun _ _ => by kernel_rfl
theorem fa80_1 : FA Try.prog 80 1 1 := fun _ _ => by kernel_rfl
theorem ent32 : Ent Try.prog 32 := fun _ _ => by kernel_rfl
theorem ent44 : Ent Try.prog 44 := fun _ _ => by kernel_rfl
theorem zv80 : ∀ w, (zeroValue 80).run Try.prog w = .ok (.agg ([.string ⟨#[]⟩, .int .i64 0, .bool false] : List Value).toArray) w := fun _ => by kernel_rfl
theorem pl80 : ∀ w, ((#[{ name := "s", type := 9, offset := 0, embedded := false, tag := "", pkgPath := "temple/templeref18", byteOffset := 0 }, { name := "at", type := 3, offset := 1, embedded := false, tag := "", pkgPath := "temple/templeref18", byteOffset := 16 }, { name := "bad", type := 4, offset := 2, embedded := false, tag := "", pkgPath := "temple/templeref18", byteOffset := 24 }] : Array Field).mapM (m := Sem) fun f => do pure (f.offset, ← sizeOf f.type)).run Try.prog w = .ok #[(0, 1), (1, 1), (2, 1)] w := fun _ => by kernel_rfl
theorem ent33 : Ent Try.prog 33 := fun _ _ => by kernel_rfl
theorem ent50 : Ent Try.prog 50 := fun _ _ => by kernel_rfl
theorem ent45 : Ent Try.prog 45 := fun _ _ => by kernel_rfl
theorem ent34 : Ent Try.prog 34 := fun _ _ => by kernel_rfl
theorem ent10 : Ent Try.prog 10 := fun _ _ => by kernel_rfl
theorem ent12 : Ent Try.prog 12 := fun _ _ => by kernel_rfl
theorem ent14 : Ent Try.prog 14 := fun _ _ => by kernel_rfl
theorem ent15 : Ent Try.prog 15 := fun _ _ => by kernel_rfl
theorem ent9 : Ent Try.prog 9 := fun _ _ => by kernel_rfl
theorem ent11 : Ent Try.prog 11 := fun _ _ => by kernel_rfl
theorem ent13 : Ent Try.prog 13 := fun _ _ => by kernel_rfl
theorem ent17 : Ent Try.prog 17 := fun _ _ => by kernel_rfl
def cPickH : Co (Pick × Value) := ⟨fun x => [Ai .i64 x.1.At, Ai .i64 x.1.Conj, .sv x.2], 3, by decide, fun _ => rfl, fun _ => ⟨oLit rfl, oLit rfl, oSv, trivial⟩⟩
def trPick : Tr Pick := ⟨49, cPickH, cPick, fun x u => .own 3 (cI .i64) u x.Kids, rfl, fun hc h => (AllP.st (fun _ y => .inl y) (fun _ _ => rfl) h).imp' (i := 2) rfl (fun w hw => by rw [hw.1]; exact own_fsl hc) rfl⟩
def cNodeH : Co (Node × Value) := ⟨fun x => [Ab x.1.Sign, Ai .i64 x.1.Kind, Ai .i64 x.1.Name, Ai .i64 x.1.Place.Rule, Ai .i64 x.1.Place.Conj, Ai .i64 x.1.Place.Pos, Ai .i64 x.1.I, Ai .i64 x.1.J, Ai .i64 x.1.Rank, .sv x.2], 10, by decide, fun _ => rfl, fun _ => ⟨oLit rfl, oLit rfl, oLit rfl, oLit rfl, oLit rfl, oLit rfl, oLit rfl, oLit rfl, oLit rfl, oSv, trivial⟩⟩
def trNode : Tr Node := ⟨46, cNodeH, cNode, fun x u => .tro trPick u x.Picks none, rfl, fun hc h => (AllP.st (fun _ y => .inl y) (fun _ _ => rfl) h).imp' (i := 9) rfl (fun w hw => by rw [hw.1]; exact tro_fsl hc) rfl⟩
theorem ent18 : Ent Try.prog 18 := fun _ _ => by kernel_rfl
theorem ent19 : Ent Try.prog 19 := fun _ _ => by kernel_rfl
theorem g5 : IsAgg Try.prog 5 false := fun _ => by kernel_rfl
end Go.Proofs.Ytokccimmgilciaa
