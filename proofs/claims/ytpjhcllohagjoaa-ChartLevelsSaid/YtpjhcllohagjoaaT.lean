/-
  The types of the program, their codecs, facts on types and functions. Own work, written by a program of this session's (gen.py).
-/
import Derived.Test.YtpjhcllohagjoaaSO
import Derived.Test.YtpjhcllohagjoaaS3
import Derived.Test.YtpjhcllohagjoaaSR
import Derived.Test.YtpjhcllohagjoaaProg
namespace Go.Proofs.Ytpjhcllohagjoaa
open S
set_option linter.unusedVariables false

structure Symbol where
  Name : Int
  Lo : Int
  Hi : Int
  deriving DecidableEq
def zSymbol : Symbol := ⟨(0 : Int), (0 : Int), (0 : Int)⟩
instance : Inhabited Symbol := ⟨zSymbol⟩
def cSymbol : Co Symbol := ⟨fun x => [Ai .i64 x.Name, Ai .i64 x.Lo, Ai .i64 x.Hi], 3, by decide, fun _ => rfl, fun _ => ⟨oLit rfl, oLit rfl, oLit rfl, trivial⟩⟩
structure Conjunct where
  Neg : Bool
  Seq : (List Symbol)
  deriving DecidableEq
def zConjunct : Conjunct := ⟨false, ([] : (List Symbol))⟩
instance : Inhabited Conjunct := ⟨zConjunct⟩
def cConjunct : Co Conjunct := ⟨fun x => [Ab x.Neg, .fsl cSymbol x.Seq], 2, by decide, fun _ => rfl, fun _ => ⟨oLit rfl, oFsl, trivial⟩⟩
structure Rule where
  Head : Int
  Conj : (List Conjunct)
  deriving DecidableEq
def zRule : Rule := ⟨(0 : Int), ([] : (List Conjunct))⟩
instance : Inhabited Rule := ⟨zRule⟩
def cRule : Co Rule := ⟨fun x => [Ai .i64 x.Head, .fsl cConjunct x.Conj], 2, by decide, fun _ => rfl, fun _ => ⟨oLit rfl, oFsl, trivial⟩⟩
structure Grammar where
  Start : Int
  Names : (List ByteArray)
  Rules : (List Rule)
  deriving DecidableEq
def zGrammar : Grammar := ⟨(0 : Int), ([] : (List ByteArray)), ([] : (List Rule))⟩
instance : Inhabited Grammar := ⟨zGrammar⟩
def cGrammar : Co Grammar := ⟨fun x => [Ai .i64 x.Start, .fsl cS x.Names, .fsl cRule x.Rules], 3, by decide, fun _ => rfl, fun _ => ⟨oLit rfl, oFsl, oFsl, trivial⟩⟩
structure Chart_set where
  names : (List Int)
  begun : (List (List (List Int)))
  deriving DecidableEq
def zChart_set : Chart_set := ⟨([] : (List Int)), ([] : (List (List (List Int))))⟩
instance : Inhabited Chart_set := ⟨zChart_set⟩
def cChart_set : Co Chart_set := ⟨fun x => [.fsl (cI .u64) x.names, .fsl (cL (cL (cI .u64))) x.begun], 2, by decide, fun _ => rfl, fun _ => ⟨oFsl, oFsl, trivial⟩⟩
structure Chart_Engine where
  g : Grammar
  levels : (List Int)
  w : (List Int)
  sets : (List Chart_set)
  deriving DecidableEq
def zChart_Engine : Chart_Engine := ⟨(zGrammar : Grammar), ([] : (List Int)), ([] : (List Int)), ([] : (List Chart_set))⟩
instance : Inhabited Chart_Engine := ⟨zChart_Engine⟩
def cChart_Engine : Co Chart_Engine := ⟨fun x => [Ai .i64 x.g.Start, .fsl cS x.g.Names, .fsl cRule x.g.Rules, .fsl (cI .i64) x.levels, .fsl (cI .u8) x.w, .fsl cChart_set x.sets], 6, by decide, fun _ => rfl, fun _ => ⟨oLit rfl, oFsl, oFsl, oFsl, oFsl, oFsl, trivial⟩⟩
structure Edge where
  From : Int
  To : Int
  Neg : Bool
  deriving DecidableEq
def zEdge : Edge := ⟨(0 : Int), (0 : Int), false⟩
instance : Inhabited Edge := ⟨zEdge⟩
def cEdge : Co Edge := ⟨fun x => [Ai .i64 x.From, Ai .i64 x.To, Ab x.Neg], 3, by decide, fun _ => rfl, fun _ => ⟨oLit rfl, oLit rfl, oLit rfl, trivial⟩⟩
def wfSymbol (x : Symbol) : Prop := (wfI .i64) x.Name ∧ (wfI .i64) x.Lo ∧ (wfI .i64) x.Hi
def wfConjunct (x : Conjunct) : Prop := wfB x.Neg ∧ (wfL wfSymbol 24) x.Seq
def wfRule (x : Rule) : Prop := (wfI .i64) x.Head ∧ (wfL wfConjunct 32) x.Conj
def wfGrammar (x : Grammar) : Prop := (wfI .i64) x.Start ∧ (wfL wfS 16) x.Names ∧ (wfL wfRule 32) x.Rules
def wfChart_set (x : Chart_set) : Prop := (wfL (wfI .u64) 8) x.names ∧ (wfL (wfL (wfL (wfI .u64) 8) 24) 24) x.begun
def wfChart_Engine (x : Chart_Engine) : Prop := wfGrammar x.g ∧ (wfL (wfI .i64) 8) x.levels ∧ (wfL (wfI .u8) 1) x.w ∧ (wfL wfChart_set 48) x.sets
def wfEdge (x : Edge) : Prop := (wfI .i64) x.From ∧ (wfI .i64) x.To ∧ wfB x.Neg

theorem al30 : ∀ w, (Instr.alloc 30 true (.tuple #[])).run Try.prog w = .ok (.pointer (some ⟨w.heap.size, 0, none⟩)) (w.alloc (.cells ([.int .i64 0, .slice none 0 0, .slice none 0 0] : List Value).toArray 30)) := fun _ => by kernel_rfl
theorem zv38 : ∀ w, (zeroValue 38).run Try.prog w = .ok (.agg ([.int .i64 0, .int .i64 0, .int .i64 0] : List Value).toArray) w := fun _ => by kernel_rfl
theorem pl38 : ∀ w, ((#[{ name := "Name", type := 3, offset := 0, embedded := false, tag := "", pkgPath := "", byteOffset := 0 }, { name := "Lo", type := 3, offset := 1, embedded := false, tag := "", pkgPath := "", byteOffset := 8 }, { name := "Hi", type := 3, offset := 2, embedded := false, tag := "", pkgPath := "", byteOffset := 16 }] : Array Field).mapM (m := Sem) fun f => do pure (f.offset, ← sizeOf f.type)).run Try.prog w = .ok #[(0, 1), (1, 1), (2, 1)] w := fun _ => by kernel_rfl
theorem al38 : ∀ w, (Instr.alloc 38 true (.tuple #[])).run Try.prog w = .ok (.pointer (some ⟨w.heap.size, 0, none⟩)) (w.alloc (.cells ([.int .i64 0, .int .i64 0, .int .i64 0] : List Value).toArray 38)) := fun _ => by kernel_rfl
theorem z38 : SizeIs Try.prog 38 3 := fun _ => by kernel_rfl
theorem z9 : SizeIs Try.prog 9 1 := fun _ => by kernel_rfl
theorem info9 : Info Try.prog 9 (.string ⟨#[]⟩) 1 16 := by unfold Info; kernel_rfl
theorem g38 : IsAgg Try.prog 38 true := fun _ => by kernel_rfl
theorem info38 : Info Try.prog 38 (.agg #[.int .i64 0, .int .i64 0, .int .i64 0]) 3 24 := by unfold Info; kernel_rfl
theorem zv41 : ∀ w, (zeroValue 41).run Try.prog w = .ok (.agg ([.bool false, .slice none 0 0] : List Value).toArray) w := fun _ => by kernel_rfl
theorem pl41 : ∀ w, ((#[{ name := "Neg", type := 4, offset := 0, embedded := false, tag := "", pkgPath := "", byteOffset := 0 }, { name := "Seq", type := 39, offset := 1, embedded := false, tag := "", pkgPath := "", byteOffset := 8 }] : Array Field).mapM (m := Sem) fun f => do pure (f.offset, ← sizeOf f.type)).run Try.prog w = .ok #[(0, 1), (1, 1)] w := fun _ => by kernel_rfl
theorem z41 : SizeIs Try.prog 41 2 := fun _ => by kernel_rfl
theorem info41 : Info Try.prog 41 (.agg #[.bool false, .slice none 0 0]) 2 32 := by unfold Info; kernel_rfl
theorem zv44 : ∀ w, (zeroValue 44).run Try.prog w = .ok (.agg ([.int .i64 0, .slice none 0 0] : List Value).toArray) w := fun _ => by kernel_rfl
theorem pl44 : ∀ w, ((#[{ name := "Head", type := 3, offset := 0, embedded := false, tag := "", pkgPath := "", byteOffset := 0 }, { name := "Conj", type := 42, offset := 1, embedded := false, tag := "", pkgPath := "", byteOffset := 8 }] : Array Field).mapM (m := Sem) fun f => do pure (f.offset, ← sizeOf f.type)).run Try.prog w = .ok #[(0, 1), (1, 1)] w := fun _ => by kernel_rfl
theorem z44 : SizeIs Try.prog 44 2 := fun _ => by kernel_rfl
theorem info44 : Info Try.prog 44 (.agg #[.int .i64 0, .slice none 0 0]) 2 32 := by unfold Info; kernel_rfl
theorem zv30 : ∀ w, (zeroValue 30).run Try.prog w = .ok (.agg ([.int .i64 0, .slice none 0 0, .slice none 0 0] : List Value).toArray) w := fun _ => by kernel_rfl
theorem pl30 : ∀ w, ((#[{ name := "Start", type := 3, offset := 0, embedded := false, tag := "", pkgPath := "", byteOffset := 0 }, { name := "Names", type := 27, offset := 1, embedded := false, tag := "", pkgPath := "", byteOffset := 8 }, { name := "Rules", type := 28, offset := 2, embedded := false, tag := "", pkgPath := "", byteOffset := 32 }] : Array Field).mapM (m := Sem) fun f => do pure (f.offset, ← sizeOf f.type)).run Try.prog w = .ok #[(0, 1), (1, 1), (2, 1)] w := fun _ => by kernel_rfl
theorem z30 : SizeIs Try.prog 30 3 := fun _ => by kernel_rfl
theorem g30 : IsAgg Try.prog 30 true := fun _ => by kernel_rfl
theorem ent51 : Ent Try.prog 51 := fun _ _ => by kernel_rfl
theorem ent52 : Ent Try.prog 52 := fun _ _ => by kernel_rfl
theorem g9 : IsAgg Try.prog 9 false := fun _ => by kernel_rfl
theorem ent44 : Ent Try.prog 44 := fun _ _ => by kernel_rfl
theorem mk9 : MK Try.prog 9 (fun x : ByteArray => Value.string x) := mkStr Try.underlying9
theorem zv4 : ∀ w, (zeroValue 4).run Try.prog w = .ok (.bool false) w := fun _ => by kernel_rfl
theorem fa38_0 : FA Try.prog 38 0 0 := fun _ _ => by kernel_rfl
theorem g3 : IsAgg Try.prog 3 false := fun _ => by kernel_rfl
theorem fa38_1 : FA Try.prog 38 1 1 := fun _ _ => by kernel_rfl
theorem fa38_2 : FA Try.prog 38 2 2 := fun _ _ => by kernel_rfl
theorem fa44_1 : FA Try.prog 44 1 1 := fun _ _ => by kernel_rfl
theorem g42 : IsAgg Try.prog 42 false := fun _ => by kernel_rfl
theorem g41 : IsAgg Try.prog 41 true := fun _ => by kernel_rfl
theorem al41 : ∀ w, (Instr.alloc 41 true (.tuple #[])).run Try.prog w = .ok (.pointer (some ⟨w.heap.size, 0, none⟩)) (w.alloc (.cells ([.bool false, .slice none 0 0] : List Value).toArray 41)) := fun _ => by kernel_rfl
theorem fa41_1 : FA Try.prog 41 1 1 := fun _ _ => by kernel_rfl
theorem g39 : IsAgg Try.prog 39 false := fun _ => by kernel_rfl
theorem ent45 : Ent Try.prog 45 := fun _ _ => by kernel_rfl
theorem fa30_1 : FA Try.prog 30 1 1 := fun _ _ => by kernel_rfl
theorem g27 : IsAgg Try.prog 27 false := fun _ => by kernel_rfl
theorem ent32 : Ent Try.prog 32 := fun _ _ => by kernel_rfl
theorem fa30_0 : FA Try.prog 30 0 0 := fun _ _ => by kernel_rfl
theorem fa30_2 : FA Try.prog 30 2 2 := fun _ _ => by kernel_rfl
theorem g28 : IsAgg Try.prog 28 false := fun _ => by kernel_rfl
theorem ent33 : Ent Try.prog 33 := fun _ _ => by kernel_rfl
theorem fa44_0 : FA Try.prog 44 0 0 := fun _ _ => by kernel_rfl
theorem ent49 : Ent Try.prog 49 := fun _ _ => by kernel_rfl
theorem z3 : SizeIs Try.prog 3 1 := fun _ => by kernel_rfl
theorem fa67_0 : FA Try.prog 67 0 0 := fun _ _ => by kernel_rfl
theorem ent38 : Ent Try.prog 38 := fun _ _ => by kernel_rfl
theorem fa67_1 : FA Try.prog 67 1 1 := fun _ _ => by kernel_rfl
theorem fa67_2 : FA Try.prog 67 2 2 := fun _ _ => by kernel_rfl
theorem g4 : IsAgg Try.prog 4 false := fun _ => by kernel_rfl
theorem ent39 : Ent Try.prog 39 := fun _ _ => by kernel_rfl
theorem info3 : Info Try.prog 3 (.int .i64 0) 1 8 := by unfold Info; kernel_rfl
theorem ent37 : Ent Try.prog 37 := fun _ _ => by kernel_rfl
theorem mixed : Try.prog.follows .mixedOrders = true := by kernel_rfl
theorem ent24 : Ent Try.prog 24 := fun _ _ => by kernel_rfl
def litsEdge (x : Edge) : List Value := [.int .i64 x.From, .int .i64 x.To, .bool x.Neg]
def kvEdge (x : Edge) : Value := .agg (litsEdge x).toArray
theorem g44 : IsAgg Try.prog 44 true := fun _ => by kernel_rfl
theorem al44 : ∀ w, (Instr.alloc 44 true (.tuple #[])).run Try.prog w = .ok (.pointer (some ⟨w.heap.size, 0, none⟩)) (w.alloc (.cells ([.int .i64 0, .slice none 0 0] : List Value).toArray 44)) := fun _ => by kernel_rfl
theorem fa41_0 : FA Try.prog 41 0 0 := fun _ _ => by kernel_rfl
theorem zv67 : ∀ w, (zeroValue 67).run Try.prog w = .ok (.agg ([.int .i64 0, .int .i64 0, .bool false] : List Value).toArray) w := fun _ => by kernel_rfl
theorem pl67 : ∀ w, ((#[{ name := "From", type := 3, offset := 0, embedded := false, tag := "", pkgPath := "", byteOffset := 0 }, { name := "To", type := 3, offset := 1, embedded := false, tag := "", pkgPath := "", byteOffset := 8 }, { name := "Neg", type := 4, offset := 2, embedded := false, tag := "", pkgPath := "", byteOffset := 16 }] : Array Field).mapM (m := Sem) fun f => do pure (f.offset, ← sizeOf f.type)).run Try.prog w = .ok #[(0, 1), (1, 1), (2, 1)] w := fun _ => by kernel_rfl
theorem eqi67 {d : Nat} (w : World) (x y : Edge) : (Op.equalIn (d + 2) 67 (.agg (litsEdge x).toArray) (.agg (litsEdge y).toArray)).run Try.prog w = .ok (decide (x = y)) w := by
  have hu : Try.prog.underlying 67 = some (.struct (Try.prog.fieldsOf 67)) := by kernel_rfl
  have hp : Try.prog.stoodInHeld 67 = false := by kernel_rfl
  have hf : (Try.prog.fieldsOf 67).toList = [{ name := "From", type := 3, offset := 0, embedded := false, tag := "", pkgPath := "", byteOffset := 0 }, { name := "To", type := 3, offset := 1, embedded := false, tag := "", pkgPath := "", byteOffset := 8 }, { name := "Neg", type := 4, offset := 2, embedded := false, tag := "", pkgPath := "", byteOffset := 16 }] := by kernel_rfl
  rw [run_equalIn_struct w _ 67 _ _ hu hp, hf]
  rw [eqF_int (f := { name := "From", type := 3, offset := 0, embedded := false, tag := "", pkgPath := "", byteOffset := 0 }) (a := x.From) (b := y.From) (by decide +kernel) g3 Try.underlying3 rfl rfl, eqF_int (f := { name := "To", type := 3, offset := 1, embedded := false, tag := "", pkgPath := "", byteOffset := 8 }) (a := x.To) (b := y.To) (by decide +kernel) g3 Try.underlying3 rfl rfl, eqF_bool (f := { name := "Neg", type := 4, offset := 2, embedded := false, tag := "", pkgPath := "", byteOffset := 16 }) (a := x.Neg) (b := y.Neg) (by decide +kernel) g4 Try.underlying4 rfl rfl, eqF_nil]
  simp only [ok_ite]
  exact congrArg (fun b => Result.ok b w) (decide_eq_decide.2 ⟨fun h => by cases x; cases y; simp_all, fun h => by subst h; simp⟩)
theorem ck67 (w : World) (em : Bool) (x : Edge) : (Instr.checkKey em 10000 67 (kvEdge x)).run Try.prog w = .ok () w := by
  have hu : Try.prog.underlying 67 = some (.struct (Try.prog.fieldsOf 67)) := by kernel_rfl
  have hf : (Try.prog.fieldsOf 67).toList = [{ name := "From", type := 3, offset := 0, embedded := false, tag := "", pkgPath := "", byteOffset := 0 }, { name := "To", type := 3, offset := 1, embedded := false, tag := "", pkgPath := "", byteOffset := 8 }, { name := "Neg", type := 4, offset := 2, embedded := false, tag := "", pkgPath := "", byteOffset := 16 }] := by kernel_rfl
  refine run_check_st (m := 9999) hu ?_
  rw [hf]
  exact ⟨fun _ => ⟨_, part_one g3 rfl, Go.MapKept.run_checkKey (k := .int .i64 x.From) Try.underlying3 rfl em 9998⟩, fun _ => ⟨_, part_one g3 rfl, Go.MapKept.run_checkKey (k := .int .i64 x.To) Try.underlying3 rfl em 9998⟩, fun _ => ⟨_, part_one g4 rfl, Go.MapKept.run_checkKey (k := .bool x.Neg) Try.underlying4 trivial em 9998⟩, trivial⟩
theorem mk67 : MK Try.prog 67 kvEdge := mkSt (by kernel_rfl) (fun a b h => by cases a; cases b; simp [litsEdge] at h; simp [h]) ck67 (fun w x y => eqi67 (d := 9998) w x y) (fun x v hv => by simp [litsEdge] at hv; rcases hv with rfl | rfl | rfl <;> simp [Instr.sameBits])
theorem ent26 : Ent Try.prog 26 := fun _ _ => by kernel_rfl
theorem ent25 : Ent Try.prog 25 := fun _ _ => by kernel_rfl
theorem z67 : SizeIs Try.prog 67 3 := fun _ => by kernel_rfl
theorem g67 : IsAgg Try.prog 67 true := fun _ => by kernel_rfl
theorem al67 : ∀ w, (Instr.alloc 67 true (.tuple #[])).run Try.prog w = .ok (.pointer (some ⟨w.heap.size, 0, none⟩)) (w.alloc (.cells ([.int .i64 0, .int .i64 0, .bool false] : List Value).toArray 67)) := fun _ => by kernel_rfl
theorem info57 : Info Try.prog 57 (.int .u64 0) 1 8 := by unfold Info; kernel_rfl
theorem z57 : SizeIs Try.prog 57 1 := fun _ => by kernel_rfl
theorem g57 : IsAgg Try.prog 57 false := fun _ => by kernel_rfl
theorem ent40 : Ent Try.prog 40 := fun _ _ => by kernel_rfl
theorem ent41 : Ent Try.prog 41 := fun _ _ => by kernel_rfl
theorem ent70 : Ent Try.prog 70 := fun _ _ => by kernel_rfl
theorem ni9 : NoIface Try.prog 9 := ⟨_, Try.underlying9, by intro ms h; cases h⟩
theorem ent63 : Ent Try.prog 63 := fun _ _ => by kernel_rfl
theorem ent50 : Ent Try.prog 50 := fun _ _ => by kernel_rfl
theorem ent42 : Ent Try.prog 42 := fun _ _ => by kernel_rfl
theorem ent28 : Ent Try.prog 28 := fun _ _ => by kernel_rfl
theorem ent29 : Ent Try.prog 29 := fun _ _ => by kernel_rfl
theorem ent19 : Ent Try.prog 19 := fun _ _ => by kernel_rfl
theorem ent20 : Ent Try.prog 20 := fun _ _ => by kernel_rfl
theorem z42 : SizeIs Try.prog 42 1 := fun _ => by kernel_rfl
theorem z28 : SizeIs Try.prog 28 1 := fun _ => by kernel_rfl
def cLIntG : Co ((List Int) × Value) := ⟨fun x => [.sv x.2], 1, by decide, fun _ => rfl, fun _ => ⟨oSv, trivial⟩⟩
abbrev tgLInt : Tg (List Int) := ⟨Value, 58, cLIntG, (cL (cI .u64)), fun x u => [.own 57 (cI .u64) u x], rfl, fun hc h => lend_ok (.o 0 rfl (.n)) hc h⟩
theorem fltgLInt {v : Value} {xs : List (List Int)} {us : List Value} {o : Option (Int × Value)} : FlatR (.trg tgLInt v xs us o) := flTrg (fun _ => ⟨flSv, trivial⟩) (fun _ _ => ⟨flOwn (c := (cI .u64)) (fun _ => ⟨flLit, trivial⟩), trivial⟩)
def cLListIntG : Co ((List (List Int)) × (Value × List Value)) := ⟨fun x => [.sv x.2.1], 1, by decide, fun _ => rfl, fun _ => ⟨oSv, trivial⟩⟩
abbrev tgLListInt : Tg (List (List Int)) := ⟨(Value × List Value), 79, cLListIntG, (cL (cL (cI .u64))), fun x u => [.trg tgLInt u.1 x u.2 none], rfl, fun hc h => lend_ok (.x (lendG (D := tgLInt) 0 rfl) (.n)) hc h⟩
theorem fltgLListInt {v : Value} {xs : List (List (List Int))} {us : List (Value × List Value)} {o : Option (Int × (Value × List Value))} : FlatR (.trg tgLListInt v xs us o) := flTrg (fun _ => ⟨flSv, trivial⟩) (fun _ _ => ⟨fltgLInt, trivial⟩)
theorem al61 : ∀ w, (Instr.alloc 61 true (.tuple #[])).run Try.prog w = .ok (.pointer (some ⟨w.heap.size, 0, none⟩)) (w.alloc (.cells ([.slice none 0 0, .slice none 0 0] : List Value).toArray 61)) := fun _ => by kernel_rfl
theorem fa56_0 : FA Try.prog 56 0 0 := fun _ _ => by kernel_rfl
theorem zv61 : ∀ w, (zeroValue 61).run Try.prog w = .ok (.agg ([.slice none 0 0, .slice none 0 0] : List Value).toArray) w := fun _ => by kernel_rfl
theorem pl61 : ∀ w, ((#[{ name := "names", type := 58, offset := 0, embedded := false, tag := "", pkgPath := "temple/chart", byteOffset := 0 }, { name := "begun", type := 59, offset := 1, embedded := false, tag := "", pkgPath := "temple/chart", byteOffset := 24 }] : Array Field).mapM (m := Sem) fun f => do pure (f.offset, ← sizeOf f.type)).run Try.prog w = .ok #[(0, 1), (1, 1)] w := fun _ => by kernel_rfl
theorem z61 : SizeIs Try.prog 61 2 := fun _ => by kernel_rfl
theorem z58 : SizeIs Try.prog 58 1 := fun _ => by kernel_rfl
theorem info58 : Info Try.prog 58 (.slice none 0 0) 1 24 := by unfold Info; kernel_rfl
theorem fa61_1 : FA Try.prog 61 1 1 := fun _ _ => by kernel_rfl
theorem g59 : IsAgg Try.prog 59 false := fun _ => by kernel_rfl
theorem z79 : SizeIs Try.prog 79 1 := fun _ => by kernel_rfl
theorem info79 : Info Try.prog 79 (.slice none 0 0) 1 24 := by unfold Info; kernel_rfl
theorem z59 : SizeIs Try.prog 59 1 := fun _ => by kernel_rfl
theorem g61 : IsAgg Try.prog 61 true := fun _ => by kernel_rfl
theorem fa56_2 : FA Try.prog 56 2 4 := fun _ _ => by kernel_rfl
theorem g45 : IsAgg Try.prog 45 false := fun _ => by kernel_rfl
theorem z5 : SizeIs Try.prog 5 1 := fun _ => by kernel_rfl
theorem g5 : IsAgg Try.prog 5 false := fun _ => by kernel_rfl
theorem fa56_3 : FA Try.prog 56 3 5 := fun _ _ => by kernel_rfl
theorem g54 : IsAgg Try.prog 54 false := fun _ => by kernel_rfl
theorem g79 : IsAgg Try.prog 79 false := fun _ => by kernel_rfl
theorem g58 : IsAgg Try.prog 58 false := fun _ => by kernel_rfl
theorem fa61_0 : FA Try.prog 61 0 0 := fun _ _ => by kernel_rfl
def cChart_setG : Co (Chart_set × (Value × (Value × List (Value × List Value)))) := ⟨fun x => [.sv x.2.1, .sv x.2.2.1], 2, by decide, fun _ => rfl, fun _ => ⟨oSv, oSv, trivial⟩⟩
abbrev tgChart_set : Tg Chart_set := ⟨(Value × (Value × List (Value × List Value))), 61, cChart_setG, cChart_set, fun x u => [.own 57 (cI .u64) u.1 x.names, .trg tgLListInt u.2.1 x.begun u.2.2 none], rfl, fun hc h => lend_ok (.o 0 rfl (.x (lendG (D := tgLListInt) 1 rfl) (.n))) hc h⟩
theorem fltgChart_set {v : Value} {xs : List Chart_set} {us : List (Value × (Value × List (Value × List Value)))} {o : Option (Int × (Value × (Value × List (Value × List Value))))} : FlatR (.trg tgChart_set v xs us o) := flTrg (fun _ => ⟨flSv, flSv, trivial⟩) (fun _ _ => ⟨flOwn (c := (cI .u64)) (fun _ => ⟨flLit, trivial⟩), fltgLListInt, trivial⟩)
theorem ent43 : Ent Try.prog 43 := fun _ _ => by kernel_rfl
theorem fa56_1 : FA Try.prog 56 1 3 := fun _ _ => by kernel_rfl
theorem g50 : IsAgg Try.prog 50 false := fun _ => by kernel_rfl
theorem ent30 : Ent Try.prog 30 := fun _ _ => by kernel_rfl
theorem ent31 : Ent Try.prog 31 := fun _ _ => by kernel_rfl
theorem ent21 : Ent Try.prog 21 := fun _ _ => by kernel_rfl
theorem info61 : Info Try.prog 61 (.agg #[.slice none 0 0, .slice none 0 0]) 2 48 := by unfold Info; kernel_rfl
theorem z54 : SizeIs Try.prog 54 1 := fun _ => by kernel_rfl
theorem ent22 : Ent Try.prog 22 := fun _ _ => by kernel_rfl
theorem ent23 : Ent Try.prog 23 := fun _ _ => by kernel_rfl
theorem ent16 : Ent Try.prog 16 := fun _ _ => by kernel_rfl
theorem ent17 : Ent Try.prog 17 := fun _ _ => by kernel_rfl
theorem zv56 : ∀ w, (zeroValue 56).run Try.prog w = .ok (.agg ([.int .i64 0, .slice none 0 0, .slice none 0 0, .slice none 0 0, .slice none 0 0, .slice none 0 0] : List Value).toArray) w := fun _ => by kernel_rfl
theorem pl56 : ∀ w, ((#[{ name := "g", type := 30, offset := 0, embedded := false, tag := "", pkgPath := "temple/chart", byteOffset := 0 }, { name := "levels", type := 50, offset := 3, embedded := false, tag := "", pkgPath := "temple/chart", byteOffset := 56 }, { name := "w", type := 45, offset := 4, embedded := false, tag := "", pkgPath := "temple/chart", byteOffset := 80 }, { name := "sets", type := 54, offset := 5, embedded := false, tag := "", pkgPath := "temple/chart", byteOffset := 104 }] : Array Field).mapM (m := Sem) fun f => do pure (f.offset, ← sizeOf f.type)).run Try.prog w = .ok #[(0, 3), (3, 1), (4, 1), (5, 1)] w := fun _ => by kernel_rfl
theorem ent18 : Ent Try.prog 18 := fun _ _ => by kernel_rfl
theorem info5 : Info Try.prog 5 (.int .u8 0) 1 1 := by unfold Info; kernel_rfl
theorem z45 : SizeIs Try.prog 45 1 := fun _ => by kernel_rfl
theorem ent10 : Ent Try.prog 10 := fun _ _ => by kernel_rfl
theorem ent9 : Ent Try.prog 9 := fun _ _ => by kernel_rfl
theorem ent12 : Ent Try.prog 12 := fun _ _ => by kernel_rfl
theorem ent13 : Ent Try.prog 13 := fun _ _ => by kernel_rfl
theorem ent11 : Ent Try.prog 11 := fun _ _ => by kernel_rfl
theorem ent14 : Ent Try.prog 14 := fun _ _ => by kernel_rfl
theorem ent8 : Ent Try.prog 8 := fun _ _ => by kernel_rfl
theorem ent15 : Ent Try.prog 15 := fun _ _ => by kernel_rfl
theorem z27 : SizeIs Try.prog 27 1 := fun _ => by kernel_rfl
end Go.Proofs.Ytpjhcllohagjoaa
