/-
  The types of the program, their codecs, facts on types and functions. Own work, written by a program of this session's (gen.py).
-/
import Derived.Test.YtflbjhfklhidjaaSO
import Derived.Test.YtflbjhfklhidjaaS2
import Derived.Test.YtflbjhfklhidjaaSR
import Derived.Test.YtflbjhfklhidjaaProg
namespace Go.Proofs.Ytflbjhfklhidjaa
open S
set_option linter.unusedVariables false

structure Symbol where
  Name : Int
  Lo : Int
  Hi : Int
  deriving DecidableEq
def zSymbol : Symbol := ⟨(0 : Int), (0 : Int), (0 : Int)⟩
instance : Inhabited Symbol := ⟨zSymbol⟩
def cSymbol : Co Symbol := ⟨fun x => [Ai .i64 x.Name, Ai .i64 x.Lo, Ai .i64 x.Hi], 3, by decide, fun _ => rfl, fun _ => ⟨oLit rfl, oLit rfl, oLit rfl, trivial⟩⟩
structure Conjunct where
  Neg : Bool
  Seq : (List Symbol)
  deriving DecidableEq
def zConjunct : Conjunct := ⟨false, ([] : (List Symbol))⟩
instance : Inhabited Conjunct := ⟨zConjunct⟩
def cConjunct : Co Conjunct := ⟨fun x => [Ab x.Neg, .fsl cSymbol x.Seq], 2, by decide, fun _ => rfl, fun _ => ⟨oLit rfl, oFsl, trivial⟩⟩
structure Rule where
  Head : Int
  Conj : (List Conjunct)
  deriving DecidableEq
def zRule : Rule := ⟨(0 : Int), ([] : (List Conjunct))⟩
instance : Inhabited Rule := ⟨zRule⟩
def cRule : Co Rule := ⟨fun x => [Ai .i64 x.Head, .fsl cConjunct x.Conj], 2, by decide, fun _ => rfl, fun _ => ⟨oLit rfl, oFsl, trivial⟩⟩
structure Grammar where
  Start : Int
  Names : (List ByteArray)
  Rules : (List Rule)
  deriving DecidableEq
def zGrammar : Grammar := ⟨(0 : Int), ([] : (List ByteArray)), ([] : (List Rule))⟩
instance : Inhabited Grammar := ⟨zGrammar⟩
def cGrammar : Co Grammar := ⟨fun x => [Ai .i64 x.Start, .fsl cS x.Names, .fsl cRule x.Rules], 3, by decide, fun _ => rfl, fun _ => ⟨oLit rfl, oFsl, oFsl, trivial⟩⟩
structure Edge where
  From : Int
  To : Int
  Neg : Bool
  deriving DecidableEq
def zEdge : Edge := ⟨(0 : Int), (0 : Int), false⟩
instance : Inhabited Edge := ⟨zEdge⟩
def cEdge : Co Edge := ⟨fun x => [Ai .i64 x.From, Ai .i64 x.To, Ab x.Neg], 3, by decide, fun _ => rfl, fun _ => ⟨oLit rfl, oLit rfl, oLit rfl, trivial⟩⟩
structure Templeref6_Table where
  G : Grammar
  W : ByteArray
  wide : Int
  names : (List Int)
  conj : (List (List Int))
  rests : (List Int)
  deriving DecidableEq
def zTempleref6_Table : Templeref6_Table := ⟨(zGrammar : Grammar), (⟨#[]⟩ : ByteArray), (0 : Int), ([] : (List Int)), ([] : (List (List Int))), ([] : (List Int))⟩
instance : Inhabited Templeref6_Table := ⟨zTempleref6_Table⟩
def cTempleref6_Table : Co Templeref6_Table := ⟨fun x => [Ai .i64 x.G.Start, .fsl cS x.G.Names, .fsl cRule x.G.Rules, .lit (.string x.W), Ai .i64 x.wide, .fsl (cI .i64) x.names, .fsl (cL (cI .i64)) x.conj, .fsl (cI .i64) x.rests], 8, by decide, fun _ => rfl, fun _ => ⟨oLit rfl, oFsl, oFsl, oLit rfl, oLit rfl, oFsl, oFsl, oFsl, trivial⟩⟩
structure Place where
  Rule : Int
  Conj : Int
  Pos : Int
  deriving DecidableEq
def zPlace : Place := ⟨(0 : Int), (0 : Int), (0 : Int)⟩
instance : Inhabited Place := ⟨zPlace⟩
def cPlace : Co Place := ⟨fun x => [Ai .i64 x.Rule, Ai .i64 x.Conj, Ai .i64 x.Pos], 3, by decide, fun _ => rfl, fun _ => ⟨oLit rfl, oLit rfl, oLit rfl, trivial⟩⟩
def wfSymbol (x : Symbol) : Prop := (wfI .i64) x.Name ∧ (wfI .i64) x.Lo ∧ (wfI .i64) x.Hi
def wfConjunct (x : Conjunct) : Prop := wfB x.Neg ∧ (wfL wfSymbol 24) x.Seq
def wfRule (x : Rule) : Prop := (wfI .i64) x.Head ∧ (wfL wfConjunct 32) x.Conj
def wfGrammar (x : Grammar) : Prop := (wfI .i64) x.Start ∧ (wfL wfS 16) x.Names ∧ (wfL wfRule 32) x.Rules
def wfEdge (x : Edge) : Prop := (wfI .i64) x.From ∧ (wfI .i64) x.To ∧ wfB x.Neg
def wfTempleref6_Table (x : Templeref6_Table) : Prop := wfGrammar x.G ∧ wfS x.W ∧ (wfI .i64) x.wide ∧ (wfL (wfI .i64) 8) x.names ∧ (wfL (wfL (wfI .i64) 8) 24) x.conj ∧ (wfL (wfI .i64) 8) x.rests
def wfPlace (x : Place) : Prop := (wfI .i64) x.Rule ∧ (wfI .i64) x.Conj ∧ (wfI .i64) x.Pos

def cConjunctH : Co (Conjunct × Value) := ⟨fun x => [Ab x.1.Neg, .sv x.2], 2, by decide, fun _ => rfl, fun _ => ⟨oLit rfl, oSv, trivial⟩⟩
def trConjunct : Tr Conjunct := ⟨43, cConjunctH, cConjunct, fun x u => .own 45 cSymbol u x.Seq, rfl, fun hc h => (AllP.st (fun _ y => .inl y) (fun _ _ => rfl) h).imp' (i := 1) rfl (fun w hw => by rw [hw.1]; exact own_fsl hc) rfl⟩
def cRuleH : Co (Rule × Value) := ⟨fun x => [Ai .i64 x.1.Head, .sv x.2], 2, by decide, fun _ => rfl, fun _ => ⟨oLit rfl, oSv, trivial⟩⟩
def trRule : Tr Rule := ⟨40, cRuleH, cRule, fun x u => .tro trConjunct u x.Conj none, rfl, fun hc h => (AllP.st (fun _ y => .inl y) (fun _ _ => rfl) h).imp' (i := 1) rfl (fun w hw => by rw [hw.1]; exact tro_fsl hc) rfl⟩
theorem al25 : ∀ w, (Instr.alloc 25 true (.tuple #[])).run Try.prog w = .ok (.pointer (some ⟨w.heap.size, 0, none⟩)) (w.alloc (.cells ([.int .i64 0, .slice none 0 0, .slice none 0 0] : List Value).toArray 25)) := fun _ => by kernel_rfl
theorem fa25_0 : FA Try.prog 25 0 0 := fun _ _ => by kernel_rfl
theorem g3 : IsAgg Try.prog 3 false := fun _ => by kernel_rfl
theorem z9 : SizeIs Try.prog 9 1 := fun _ => by kernel_rfl
theorem info9 : Info Try.prog 9 (.string ⟨#[]⟩) 1 16 := by unfold Info; kernel_rfl
theorem fa25_1 : FA Try.prog 25 1 1 := fun _ _ => by kernel_rfl
theorem g22 : IsAgg Try.prog 22 false := fun _ => by kernel_rfl
theorem mixed : Try.prog.follows .mixedOrders = true := by kernel_rfl
theorem zv25 : ∀ w, (zeroValue 25).run Try.prog w = .ok (.agg ([.int .i64 0, .slice none 0 0, .slice none 0 0] : List Value).toArray) w := fun _ => by kernel_rfl
theorem pl25 : ∀ w, ((#[{ name := "Start", type := 3, offset := 0, embedded := false, tag := "", pkgPath := "", byteOffset := 0 }, { name := "Names", type := 22, offset := 1, embedded := false, tag := "", pkgPath := "", byteOffset := 8 }, { name := "Rules", type := 23, offset := 2, embedded := false, tag := "", pkgPath := "", byteOffset := 32 }] : Array Field).mapM (m := Sem) fun f => do pure (f.offset, ← sizeOf f.type)).run Try.prog w = .ok #[(0, 1), (1, 1), (2, 1)] w := fun _ => by kernel_rfl
theorem z25 : SizeIs Try.prog 25 3 := fun _ => by kernel_rfl
theorem fa25_2 : FA Try.prog 25 2 2 := fun _ _ => by kernel_rfl
theorem g23 : IsAgg Try.prog 23 false := fun _ => by kernel_rfl
theorem z40 : SizeIs Try.prog 40 2 := fun _ => by kernel_rfl
theorem fa40_0 : FA Try.prog 40 0 0 := fun _ _ => by kernel_rfl
theorem zv40 : ∀ w, (zeroValue 40).run Try.prog w = .ok (.agg ([.int .i64 0, .slice none 0 0] : List Value).toArray) w := fun _ => by kernel_rfl
theorem pl40 : ∀ w, ((#[{ name := "Head", type := 3, offset := 0, embedded := false, tag := "", pkgPath := "", byteOffset := 0 }, { name := "Conj", type := 38, offset := 1, embedded := false, tag := "", pkgPath := "", byteOffset := 8 }] : Array Field).mapM (m := Sem) fun f => do pure (f.offset, ← sizeOf f.type)).run Try.prog w = .ok #[(0, 1), (1, 1)] w := fun _ => by kernel_rfl
theorem al40 : ∀ w, (Instr.alloc 40 true (.tuple #[])).run Try.prog w = .ok (.pointer (some ⟨w.heap.size, 0, none⟩)) (w.alloc (.cells ([.int .i64 0, .slice none 0 0] : List Value).toArray 40)) := fun _ => by kernel_rfl
theorem fa40_1 : FA Try.prog 40 1 1 := fun _ _ => by kernel_rfl
theorem g38 : IsAgg Try.prog 38 false := fun _ => by kernel_rfl
theorem z43 : SizeIs Try.prog 43 2 := fun _ => by kernel_rfl
theorem g43 : IsAgg Try.prog 43 true := fun _ => by kernel_rfl
theorem al43 : ∀ w, (Instr.alloc 43 true (.tuple #[])).run Try.prog w = .ok (.pointer (some ⟨w.heap.size, 0, none⟩)) (w.alloc (.cells ([.bool false, .slice none 0 0] : List Value).toArray 43)) := fun _ => by kernel_rfl
theorem fa43_0 : FA Try.prog 43 0 0 := fun _ _ => by kernel_rfl
theorem g4 : IsAgg Try.prog 4 false := fun _ => by kernel_rfl
theorem z45 : SizeIs Try.prog 45 3 := fun _ => by kernel_rfl
theorem info45 : Info Try.prog 45 (.agg #[.int .i64 0, .int .i64 0, .int .i64 0]) 3 24 := by unfold Info; kernel_rfl
theorem fa43_1 : FA Try.prog 43 1 1 := fun _ _ => by kernel_rfl
theorem g41 : IsAgg Try.prog 41 false := fun _ => by kernel_rfl
theorem zv43 : ∀ w, (zeroValue 43).run Try.prog w = .ok (.agg ([.bool false, .slice none 0 0] : List Value).toArray) w := fun _ => by kernel_rfl
theorem pl43 : ∀ w, ((#[{ name := "Neg", type := 4, offset := 0, embedded := false, tag := "", pkgPath := "", byteOffset := 0 }, { name := "Seq", type := 41, offset := 1, embedded := false, tag := "", pkgPath := "", byteOffset := 8 }] : Array Field).mapM (m := Sem) fun f => do pure (f.offset, ← sizeOf f.type)).run Try.prog w = .ok #[(0, 1), (1, 1)] w := fun _ => by kernel_rfl
theorem info43 : Info Try.prog 43 (.agg #[.bool false, .slice none 0 0]) 2 32 := by unfold Info; kernel_rfl
theorem z38 : SizeIs Try.prog 38 1 := fun _ => by kernel_rfl
theorem g40 : IsAgg Try.prog 40 true := fun _ => by kernel_rfl
theorem info40 : Info Try.prog 40 (.agg #[.int .i64 0, .slice none 0 0]) 2 32 := by unfold Info; kernel_rfl
theorem z23 : SizeIs Try.prog 23 1 := fun _ => by kernel_rfl
theorem g25 : IsAgg Try.prog 25 true := fun _ => by kernel_rfl
theorem ent81 : Ent Try.prog 81 := fun _ _ => by kernel_rfl
theorem ent82 : Ent Try.prog 82 := fun _ _ => by kernel_rfl
theorem g9 : IsAgg Try.prog 9 false := fun _ => by kernel_rfl
theorem ent70 : Ent Try.prog 70 := fun _ _ => by kernel_rfl
theorem mk9 : MK Try.prog 9 (fun x : ByteArray => Value.string x) := mkStr Try.underlying9
theorem zv4 : ∀ w, (zeroValue 4).run Try.prog w = .ok (.bool false) w := fun _ => by kernel_rfl
theorem fa45_0 : FA Try.prog 45 0 0 := fun _ _ => by kernel_rfl
theorem fa45_1 : FA Try.prog 45 1 1 := fun _ _ => by kernel_rfl
theorem fa45_2 : FA Try.prog 45 2 2 := fun _ _ => by kernel_rfl
theorem g45 : IsAgg Try.prog 45 true := fun _ => by kernel_rfl
theorem al45 : ∀ w, (Instr.alloc 45 true (.tuple #[])).run Try.prog w = .ok (.pointer (some ⟨w.heap.size, 0, none⟩)) (w.alloc (.cells ([.int .i64 0, .int .i64 0, .int .i64 0] : List Value).toArray 45)) := fun _ => by kernel_rfl
theorem ent71 : Ent Try.prog 71 := fun _ _ => by kernel_rfl
theorem ent49 : Ent Try.prog 49 := fun _ _ => by kernel_rfl
theorem ent50 : Ent Try.prog 50 := fun _ _ => by kernel_rfl
theorem ent75 : Ent Try.prog 75 := fun _ _ => by kernel_rfl
theorem z3 : SizeIs Try.prog 3 1 := fun _ => by kernel_rfl
theorem fa72_0 : FA Try.prog 72 0 0 := fun _ _ => by kernel_rfl
theorem ent55 : Ent Try.prog 55 := fun _ _ => by kernel_rfl
theorem fa72_1 : FA Try.prog 72 1 1 := fun _ _ => by kernel_rfl
theorem fa72_2 : FA Try.prog 72 2 2 := fun _ _ => by kernel_rfl
theorem ent56 : Ent Try.prog 56 := fun _ _ => by kernel_rfl
theorem info3 : Info Try.prog 3 (.int .i64 0) 1 8 := by unfold Info; kernel_rfl
theorem ent54 : Ent Try.prog 54 := fun _ _ => by kernel_rfl
theorem ent37 : Ent Try.prog 37 := fun _ _ => by kernel_rfl
def litsEdge (x : Edge) : List Value := [.int .i64 x.From, .int .i64 x.To, .bool x.Neg]
def kvEdge (x : Edge) : Value := .agg (litsEdge x).toArray
theorem zv72 : ∀ w, (zeroValue 72).run Try.prog w = .ok (.agg ([.int .i64 0, .int .i64 0, .bool false] : List Value).toArray) w := fun _ => by kernel_rfl
theorem pl72 : ∀ w, ((#[{ name := "From", type := 3, offset := 0, embedded := false, tag := "", pkgPath := "", byteOffset := 0 }, { name := "To", type := 3, offset := 1, embedded := false, tag := "", pkgPath := "", byteOffset := 8 }, { name := "Neg", type := 4, offset := 2, embedded := false, tag := "", pkgPath := "", byteOffset := 16 }] : Array Field).mapM (m := Sem) fun f => do pure (f.offset, ← sizeOf f.type)).run Try.prog w = .ok #[(0, 1), (1, 1), (2, 1)] w := fun _ => by kernel_rfl
theorem eqi72 {d : Nat} (w : World) (x y : Edge) : (Op.equalIn (d + 2) 72 (.agg (litsEdge x).toArray) (.agg (litsEdge y).toArray)).run Try.prog w = .ok (decide (x = y)) w := by
  have hu : Try.prog.underlying 72 = some (.struct (Try.prog.fieldsOf 72)) := by kernel_rfl
  have hp : Try.prog.stoodInHeld 72 = false := by kernel_rfl
  have hf : (Try.prog.fieldsOf 72).toList = [{ name := "From", type := 3, offset := 0, embedded := false, tag := "", pkgPath := "", byteOffset := 0 }, { name := "To", type := 3, offset := 1, embedded := false, tag := "", pkgPath := "", byteOffset := 8 }, { name := "Neg", type := 4, offset := 2, embedded := false, tag := "", pkgPath := "", byteOffset := 16 }] := by kernel_rfl
  rw [run_equalIn_struct w _ 72 _ _ hu hp, hf]
  rw [eqF_int (f := { name := "From", type := 3, offset := 0, embedded := false, tag := "", pkgPath := "", byteOffset := 0 }) (a := x.From) (b := y.From) (by decide +kernel) g3 Try.underlying3 rfl rfl, eqF_int (f := { name := "To", type := 3, offset := 1, embedded := false, tag := "", pkgPath := "", byteOffset := 8 }) (a := x.To) (b := y.To) (by decide +kernel) g3 Try.underlying3 rfl rfl, eqF_bool (f := { name := "Neg", type := 4, offset := 2, embedded := false, tag := "", pkgPath := "", byteOffset := 16 }) (a := x.Neg) (b := y.Neg) (by decide +kernel) g4 Try.underlying4 rfl rfl, eqF_nil]
  simp only [ok_ite]
  exact congrArg (fun b => Result.ok b w) (decide_eq_decide.2 ⟨fun h => by cases x; cases y; simp_all, fun h => by subst h; simp⟩)
theorem ck72 (w : World) (em : Bool) (x : Edge) : (Instr.checkKey em 10000 72 (kvEdge x)).run Try.prog w = .ok () w := by
  have hu : Try.prog.underlying 72 = some (.struct (Try.prog.fieldsOf 72)) := by kernel_rfl
  have hf : (Try.prog.fieldsOf 72).toList = [{ name := "From", type := 3, offset := 0, embedded := false, tag := "", pkgPath := "", byteOffset := 0 }, { name := "To", type := 3, offset := 1, embedded := false, tag := "", pkgPath := "", byteOffset := 8 }, { name := "Neg", type := 4, offset := 2, embedded := false, tag := "", pkgPath := "", byteOffset := 16 }] := by kernel_rfl
  refine run_check_st (m := 9999) hu ?_
  rw [hf]
  exact ⟨fun _ => ⟨_, part_one g3 rfl, Go.MapKept.run_checkKey (k := .int .i64 x.From) Try.underlying3 rfl em 9998⟩, fun _ => ⟨_, part_one g3 rfl, Go.MapKept.run_checkKey (k := .int .i64 x.To) Try.underlying3 rfl em 9998⟩, fun _ => ⟨_, part_one g4 rfl, Go.MapKept.run_checkKey (k := .bool x.Neg) Try.underlying4 trivial em 9998⟩, trivial⟩
theorem mk72 : MK Try.prog 72 kvEdge := mkSt (by kernel_rfl) (fun a b h => by cases a; cases b; simp [litsEdge] at h; simp [h]) ck72 (fun w x y => eqi72 (d := 9998) w x y) (fun x v hv => by simp [litsEdge] at hv; rcases hv with rfl | rfl | rfl <;> simp [Instr.sameBits])
theorem ent39 : Ent Try.prog 39 := fun _ _ => by kernel_rfl
theorem ent38 : Ent Try.prog 38 := fun _ _ => by kernel_rfl
theorem z72 : SizeIs Try.prog 72 3 := fun _ => by kernel_rfl
theorem g72 : IsAgg Try.prog 72 true := fun _ => by kernel_rfl
theorem al72 : ∀ w, (Instr.alloc 72 true (.tuple #[])).run Try.prog w = .ok (.pointer (some ⟨w.heap.size, 0, none⟩)) (w.alloc (.cells ([.int .i64 0, .int .i64 0, .bool false] : List Value).toArray 72)) := fun _ => by kernel_rfl
theorem info65 : Info Try.prog 65 (.int .u64 0) 1 8 := by unfold Info; kernel_rfl
theorem z65 : SizeIs Try.prog 65 1 := fun _ => by kernel_rfl
theorem g65 : IsAgg Try.prog 65 false := fun _ => by kernel_rfl
theorem ent57 : Ent Try.prog 57 := fun _ _ => by kernel_rfl
theorem ent58 : Ent Try.prog 58 := fun _ _ => by kernel_rfl
theorem ent100 : Ent Try.prog 100 := fun _ _ => by kernel_rfl
theorem ni9 : NoIface Try.prog 9 := ⟨_, Try.underlying9, by intro ms h; cases h⟩
theorem ent93 : Ent Try.prog 93 := fun _ _ => by kernel_rfl
theorem ent76 : Ent Try.prog 76 := fun _ _ => by kernel_rfl
theorem ent59 : Ent Try.prog 59 := fun _ _ => by kernel_rfl
theorem ent41 : Ent Try.prog 41 := fun _ _ => by kernel_rfl
theorem ent42 : Ent Try.prog 42 := fun _ _ => by kernel_rfl
theorem ent26 : Ent Try.prog 26 := fun _ _ => by kernel_rfl
theorem ent27 : Ent Try.prog 27 := fun _ _ => by kernel_rfl
theorem z4 : SizeIs Try.prog 4 1 := fun _ => by kernel_rfl
theorem ent28 : Ent Try.prog 28 := fun _ _ => by kernel_rfl
theorem ent17 : Ent Try.prog 17 := fun _ _ => by kernel_rfl
theorem info4 : Info Try.prog 4 (.bool false) 1 1 := by unfold Info; kernel_rfl
theorem ent18 : Ent Try.prog 18 := fun _ _ => by kernel_rfl
theorem ent34 : Ent Try.prog 34 := fun _ _ => by kernel_rfl
theorem ent35 : Ent Try.prog 35 := fun _ _ => by kernel_rfl
theorem ent36 : Ent Try.prog 36 := fun _ _ => by kernel_rfl
theorem ent23 : Ent Try.prog 23 := fun _ _ => by kernel_rfl
theorem ent24 : Ent Try.prog 24 := fun _ _ => by kernel_rfl
theorem ent25 : Ent Try.prog 25 := fun _ _ => by kernel_rfl
theorem ent15 : Ent Try.prog 15 := fun _ _ => by kernel_rfl
theorem ent60 : Ent Try.prog 60 := fun _ _ => by kernel_rfl
theorem info72 : Info Try.prog 72 (.agg #[.int .i64 0, .int .i64 0, .bool false]) 3 24 := by unfold Info; kernel_rfl
theorem ent61 : Ent Try.prog 61 := fun _ _ => by kernel_rfl
theorem ent62 : Ent Try.prog 62 := fun _ _ => by kernel_rfl
theorem ent63 : Ent Try.prog 63 := fun _ _ => by kernel_rfl
theorem ent43 : Ent Try.prog 43 := fun _ _ => by kernel_rfl
theorem ent44 : Ent Try.prog 44 := fun _ _ => by kernel_rfl
theorem ent45 : Ent Try.prog 45 := fun _ _ => by kernel_rfl
theorem fa79_1 : FA Try.prog 79 1 3 := fun _ _ => by kernel_rfl
theorem fa114_0 : FA Try.prog 114 0 0 := fun _ _ => by kernel_rfl
theorem fa79_0 : FA Try.prog 79 0 0 := fun _ _ => by kernel_rfl
theorem fa114_1 : FA Try.prog 114 1 1 := fun _ _ => by kernel_rfl
theorem fa114_2 : FA Try.prog 114 2 2 := fun _ _ => by kernel_rfl
theorem fa79_4 : FA Try.prog 79 4 6 := fun _ _ => by kernel_rfl
theorem g77 : IsAgg Try.prog 77 false := fun _ => by kernel_rfl
theorem z48 : SizeIs Try.prog 48 1 := fun _ => by kernel_rfl
theorem g48 : IsAgg Try.prog 48 false := fun _ => by kernel_rfl
theorem ent48 : Ent Try.prog 48 := fun _ _ => by kernel_rfl
theorem g114 : IsAgg Try.prog 114 true := fun _ => by kernel_rfl
theorem z114 : SizeIs Try.prog 114 3 := fun _ => by kernel_rfl
theorem ent66 : Ent Try.prog 66 := fun _ _ => by kernel_rfl
theorem fa79_5 : FA Try.prog 79 5 7 := fun _ _ => by kernel_rfl
theorem fa79_2 : FA Try.prog 79 2 4 := fun _ _ => by kernel_rfl
theorem ent77 : Ent Try.prog 77 := fun _ _ => by kernel_rfl
theorem zv45 : ∀ w, (zeroValue 45).run Try.prog w = .ok (.agg ([.int .i64 0, .int .i64 0, .int .i64 0] : List Value).toArray) w := fun _ => by kernel_rfl
theorem pl45 : ∀ w, ((#[{ name := "Name", type := 3, offset := 0, embedded := false, tag := "", pkgPath := "", byteOffset := 0 }, { name := "Lo", type := 3, offset := 1, embedded := false, tag := "", pkgPath := "", byteOffset := 8 }, { name := "Hi", type := 3, offset := 2, embedded := false, tag := "", pkgPath := "", byteOffset := 16 }] : Array Field).mapM (m := Sem) fun f => do pure (f.offset, ← sizeOf f.type)).run Try.prog w = .ok #[(0, 1), (1, 1), (2, 1)] w := fun _ => by kernel_rfl
theorem al114 : ∀ w, (Instr.alloc 114 true (.tuple #[])).run Try.prog w = .ok (.pointer (some ⟨w.heap.size, 0, none⟩)) (w.alloc (.cells ([.int .i64 0, .int .i64 0, .int .i64 0] : List Value).toArray 114)) := fun _ => by kernel_rfl
theorem zv114 : ∀ w, (zeroValue 114).run Try.prog w = .ok (.agg ([.int .i64 0, .int .i64 0, .int .i64 0] : List Value).toArray) w := fun _ => by kernel_rfl
theorem pl114 : ∀ w, ((#[{ name := "Rule", type := 3, offset := 0, embedded := false, tag := "", pkgPath := "", byteOffset := 0 }, { name := "Conj", type := 3, offset := 1, embedded := false, tag := "", pkgPath := "", byteOffset := 8 }, { name := "Pos", type := 3, offset := 2, embedded := false, tag := "", pkgPath := "", byteOffset := 16 }] : Array Field).mapM (m := Sem) fun f => do pure (f.offset, ← sizeOf f.type)).run Try.prog w = .ok #[(0, 1), (1, 1), (2, 1)] w := fun _ => by kernel_rfl
theorem fa79_3 : FA Try.prog 79 3 5 := fun _ _ => by kernel_rfl
theorem ent32 : Ent Try.prog 32 := fun _ _ => by kernel_rfl
theorem ent78 : Ent Try.prog 78 := fun _ _ => by kernel_rfl
theorem ent79 : Ent Try.prog 79 := fun _ _ => by kernel_rfl
theorem ent80 : Ent Try.prog 80 := fun _ _ => by kernel_rfl
theorem ent64 : Ent Try.prog 64 := fun _ _ => by kernel_rfl
theorem ent20 : Ent Try.prog 20 := fun _ _ => by kernel_rfl
theorem ent65 : Ent Try.prog 65 := fun _ _ => by kernel_rfl
theorem ent67 : Ent Try.prog 67 := fun _ _ => by kernel_rfl
theorem ent46 : Ent Try.prog 46 := fun _ _ => by kernel_rfl
theorem ent68 : Ent Try.prog 68 := fun _ _ => by kernel_rfl
theorem ent69 : Ent Try.prog 69 := fun _ _ => by kernel_rfl
theorem ent47 : Ent Try.prog 47 := fun _ _ => by kernel_rfl
theorem ent29 : Ent Try.prog 29 := fun _ _ => by kernel_rfl
theorem zv79 : ∀ w, (zeroValue 79).run Try.prog w = .ok (.agg ([.int .i64 0, .slice none 0 0, .slice none 0 0, .string ⟨#[]⟩, .int .i64 0, .slice none 0 0, .slice none 0 0, .slice none 0 0] : List Value).toArray) w := fun _ => by kernel_rfl
theorem pl79 : ∀ w, ((#[{ name := "G", type := 25, offset := 0, embedded := false, tag := "", pkgPath := "", byteOffset := 0 }, { name := "W", type := 9, offset := 3, embedded := false, tag := "", pkgPath := "", byteOffset := 56 }, { name := "wide", type := 3, offset := 4, embedded := false, tag := "", pkgPath := "temple/templeref6", byteOffset := 72 }, { name := "names", type := 48, offset := 5, embedded := false, tag := "", pkgPath := "temple/templeref6", byteOffset := 80 }, { name := "conj", type := 77, offset := 6, embedded := false, tag := "", pkgPath := "temple/templeref6", byteOffset := 104 }, { name := "rests", type := 48, offset := 7, embedded := false, tag := "", pkgPath := "temple/templeref6", byteOffset := 128 }] : Array Field).mapM (m := Sem) fun f => do pure (f.offset, ← sizeOf f.type)).run Try.prog w = .ok #[(0, 3), (3, 1), (4, 1), (5, 1), (6, 1), (7, 1)] w := fun _ => by kernel_rfl
theorem info48 : Info Try.prog 48 (.slice none 0 0) 1 24 := by unfold Info; kernel_rfl
theorem z77 : SizeIs Try.prog 77 1 := fun _ => by kernel_rfl
theorem ent30 : Ent Try.prog 30 := fun _ _ => by kernel_rfl
theorem ent31 : Ent Try.prog 31 := fun _ _ => by kernel_rfl
theorem ent19 : Ent Try.prog 19 := fun _ _ => by kernel_rfl
def litsSymbol (x : Symbol) : List Value := [.int .i64 x.Name, .int .i64 x.Lo, .int .i64 x.Hi]
theorem eqi45 {d : Nat} (w : World) (x y : Symbol) : (Op.equalIn (d + 2) 45 (.agg (litsSymbol x).toArray) (.agg (litsSymbol y).toArray)).run Try.prog w = .ok (decide (x = y)) w := by
  have hu : Try.prog.underlying 45 = some (.struct (Try.prog.fieldsOf 45)) := by kernel_rfl
  have hp : Try.prog.stoodInHeld 45 = false := by kernel_rfl
  have hf : (Try.prog.fieldsOf 45).toList = [{ name := "Name", type := 3, offset := 0, embedded := false, tag := "", pkgPath := "", byteOffset := 0 }, { name := "Lo", type := 3, offset := 1, embedded := false, tag := "", pkgPath := "", byteOffset := 8 }, { name := "Hi", type := 3, offset := 2, embedded := false, tag := "", pkgPath := "", byteOffset := 16 }] := by kernel_rfl
  rw [run_equalIn_struct w _ 45 _ _ hu hp, hf]
  rw [eqF_int (f := { name := "Name", type := 3, offset := 0, embedded := false, tag := "", pkgPath := "", byteOffset := 0 }) (a := x.Name) (b := y.Name) (by decide +kernel) g3 Try.underlying3 rfl rfl, eqF_int (f := { name := "Lo", type := 3, offset := 1, embedded := false, tag := "", pkgPath := "", byteOffset := 8 }) (a := x.Lo) (b := y.Lo) (by decide +kernel) g3 Try.underlying3 rfl rfl, eqF_int (f := { name := "Hi", type := 3, offset := 2, embedded := false, tag := "", pkgPath := "", byteOffset := 16 }) (a := x.Hi) (b := y.Hi) (by decide +kernel) g3 Try.underlying3 rfl rfl, eqF_nil]
  simp only [ok_ite]
  exact congrArg (fun b => Result.ok b w) (decide_eq_decide.2 ⟨fun h => by cases x; cases y; simp_all, fun h => by subst h; simp⟩)
theorem eq45 {n : Nat} {fr : Fr} {H : List Res} {t' ty : TypeId} {a b : Operand} {x y : Symbol} (hx : arg fr a = some (.agg (cSymbol.e x))) (hy : arg fr b = some (.agg (cSymbol.e y))) : D Try.prog n H (.binOp .eql 45 a b t') ty fr (Ab (decide (x = y))) := dEqSt litsSymbol (by kernel_rfl) (fun _ => rfl) (fun w x y => eqi45 (d := 9998) w x y) hx hy
theorem eq45n {n : Nat} {fr : Fr} {H : List Res} {t' ty : TypeId} {a b : Operand} {x y : Symbol} (hx : arg fr a = some (.agg (cSymbol.e x))) (hy : arg fr b = some (.agg (cSymbol.e y))) : D Try.prog n H (.binOp .neq 45 a b t') ty fr (Ab (decide (x ≠ y))) := dNeSt litsSymbol (by kernel_rfl) (fun _ => rfl) (fun w x y => eqi45 (d := 9998) w x y) hx hy
theorem ent33 : Ent Try.prog 33 := fun _ _ => by kernel_rfl
theorem ent21 : Ent Try.prog 21 := fun _ _ => by kernel_rfl
theorem ent22 : Ent Try.prog 22 := fun _ _ => by kernel_rfl
theorem ent9 : Ent Try.prog 9 := fun _ _ => by kernel_rfl
theorem ent11 : Ent Try.prog 11 := fun _ _ => by kernel_rfl
theorem ent12 : Ent Try.prog 12 := fun _ _ => by kernel_rfl
theorem ent8 : Ent Try.prog 8 := fun _ _ => by kernel_rfl
theorem ent10 : Ent Try.prog 10 := fun _ _ => by kernel_rfl
theorem ent13 : Ent Try.prog 13 := fun _ _ => by kernel_rfl
theorem ent14 : Ent Try.prog 14 := fun _ _ => by kernel_rfl
end Go.Proofs.Ytflbjhfklhidjaa
