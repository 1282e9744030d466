/-
  Sim, the third text: abstract values of slices, pointers, structs; the quiet operations, one by one. Own work; no claim stands here.
-/
import Derived.Test.YtpjhcllohagjoaaSB
import Derived.IntWalk
namespace Go.Proofs.Ytpjhcllohagjoaa
namespace S
open Go.RowKit
set_option linter.unusedVariables false
set_option linter.unusedSimpArgs false

/-! ## Abstract values -/

theorem AllP.st {Z Z' : Nat → Prop} {w w' : World} {as : List AV} {vs : List Value} (hz : ∀ b, Z b → Z' b) (hk : Keep Z w w') (h : AllP Z w as vs) : AllP Z' w' as vs := by
  induction h with
  | nil => exact .nil
  | cons h _ ih => exact .cons (AV.st _ hz hk h) ih

theorem AllP.get {Z : Nat → Prop} {w : World} {as : List AV} {vs : List Value} (h : AllP Z w as vs) {i : Nat} {a : AV} (hi : as[i]? = some a) : ∃ v, vs[i]? = some v ∧ a.p Z w v := by
  induction h generalizing i with
  | nil => simp at hi
  | cons h _ ih =>
    cases i with
    | zero => simp at hi; subst hi; exact ⟨_, rfl, h⟩
    | succ i => simp at hi; simpa using ih hi

theorem AllP.drop {Z : Nat → Prop} {w : World} {as : List AV} {vs : List Value} (h : AllP Z w as vs) (i : Nat) : AllP Z w (as.drop i) (vs.drop i) := by
  induction h generalizing i with
  | nil => simp; exact .nil
  | cons h h' ih => cases i with
    | zero => exact .cons h h'
    | succ i => exact ih i
theorem AllP.take {Z : Nat → Prop} {w : World} {as : List AV} {vs : List Value} (h : AllP Z w as vs) (i : Nat) : AllP Z w (as.take i) (vs.take i) := by
  induction h generalizing i with
  | nil => simp; exact .nil
  | cons h h' ih => cases i with
    | zero => exact .nil
    | succ i => exact .cons h (ih i)
theorem AllP.append {Z : Nat → Prop} {w : World} {as bs : List AV} {vs us : List Value} (h : AllP Z w as vs) (h' : AllP Z w bs us) : AllP Z w (as ++ bs) (vs ++ us) := by
  induction h with
  | nil => exact h'
  | cons h _ ih => exact .cons h ih
theorem AllP.set {Z : Nat → Prop} {w : World} {as : List AV} {vs : List Value} (h : AllP Z w as vs) {i : Nat} {a : AV} {v : Value} (hv : a.p Z w v) : AllP Z w (as.set i a) (vs.set i v) := by
  induction h generalizing i with
  | nil => exact .nil
  | cons h h' ih => cases i with
    | zero => exact .cons hv h'
    | succ i => exact .cons h ih

/-- A struct's (array's) value, cell by cell. -/
def AV.agg (as : List AV) : AV := ⟨fun Z w v => ∃ vs, v = .agg vs.toArray ∧ AllP Z w as vs, fun hz hk h => by obtain ⟨vs, e, h⟩ := h; exact ⟨vs, e, h.st hz hk⟩⟩

/-- Several results. -/
def AV.tup (as : List AV) : AV := ⟨fun Z w v => ∃ vs, v = .tuple vs.toArray ∧ AllP Z w as vs, fun hz hk h => by obtain ⟨vs, e, h⟩ := h; exact ⟨vs, e, h.st hz hk⟩⟩

/-- These cells stand from the address on, in memory that is not written any more. -/
def At (Z : Nat → Prop) (w : World) (a : Addr) (as : List AV) : Prop := ∃ vs, AllP Z w as vs ∧ ∀ j u, vs[j]? = some u → w.cell? (a.add j) = some u

theorem add_block (a : Addr) (j : Nat) : (a.add j).block = a.block := by unfold Addr.add; split <;> rfl
theorem add_add (a : Addr) (i j : Nat) : (a.add i).add j = a.add (i + j) := by
  unfold Addr.add
  by_cases hi : i = 0
  · subst hi; simp
  · by_cases hj : j = 0
    · subst hj; simp
    · simp [hi, hj]; omega

theorem At.st {Z Z' : Nat → Prop} {w w' : World} {a : Addr} {as : List AV} (hz : ∀ b, Z b → Z' b) (hk : Keep Z w w') (hb : Z a.block) (h : At Z w a as) : At Z' w' a as := by
  obtain ⟨vs, h1, h2⟩ := h
  exact ⟨vs, h1.st hz hk, fun j u hj => by rw [hk.cell (by rw [add_block]; exact hb)]; exact h2 j u hj⟩
theorem At.drop {Z : Nat → Prop} {w : World} {a : Addr} {as : List AV} (h : At Z w a as) (i : Nat) : At Z w (a.add i) (as.drop i) := by
  obtain ⟨vs, h1, h2⟩ := h
  exact ⟨vs.drop i, h1.drop i, fun j u hj => by rw [add_add]; exact h2 (i + j) u (by simpa using hj)⟩

/-- A pointer to such memory. -/
def AV.fptr (as : List AV) : AV := ⟨fun Z w v => ∃ a, v = .pointer (some a) ∧ Z a.block ∧ At Z w a as, fun hz hk ⟨a, e, hb, h⟩ => ⟨a, e, hz _ hb, h.st hz hk hb⟩⟩

/-- A value of one cell. -/
def AV.One (a : AV) : Prop := ∀ Z w v, a.p Z w v → v.oneCell' = true
def OneL : List AV → Prop
  | [] => True
  | a :: as => a.One ∧ OneL as
theorem oLit {v : Value} (h : v.oneCell' = true) : (AV.lit v).One := fun _ _ _ e => by rw [show _ = v from e]; exact h
theorem oFptr {as : List AV} : (AV.fptr as).One := fun _ _ _ ⟨_, e, _⟩ => by rw [e]; rfl

/-- How a Go type's values are written out in cells. -/
structure Co (T : Type) where
  e : T → List AV
  sz : Nat
  pos : 0 < sz
  len : ∀ x, (e x).length = sz
  one : ∀ x, OneL (e x)

/-- A slice over memory that is not written any more. -/
def AV.fsl {T : Type} (c : Co T) (xs : List T) : AV :=
  ⟨fun Z w v => ∃ A m, v = .slice A xs.length m ∧ xs.length ≤ m ∧ ∀ i x, xs[i]? = some x → ∃ a, A = some a ∧ Z a.block ∧ At Z w (a.add (i * c.sz)) (c.e x),
   fun hz hk h => by
    obtain ⟨A, m, e1, hc, h⟩ := h
    refine ⟨A, m, e1, hc, fun i x hx => ?_⟩
    obtain ⟨a, ea, hb, h⟩ := h i x hx
    exact ⟨a, ea, hz _ hb, h.st hz hk (by rw [add_block]; exact hb)⟩⟩
theorem oFsl {T : Type} {c : Co T} {xs : List T} : (AV.fsl c xs).One := fun _ _ _ ⟨_, _, e, _⟩ => by rw [e]; rfl

/-- The i-th element, as a term (d: beyond the end). -/
def rd {T : Type} [Inhabited T] (xs : List T) (i : Int) : T := xs.getD i.toNat default
theorem rd_get {T : Type} [Inhabited T] {xs : List T} {i : Int} (h0 : 0 ≤ i) (h : i < xs.length) : xs[i.toNat]? = some (rd xs i) := by
  unfold rd
  have : i.toNat < xs.length := by omega
  simp [List.getD_eq_getElem?_getD, this]

/-- A byte of a string, as a number. -/
def bt (s : ByteArray) (i : Int) : Int := ((s.data.getD i.toNat 0).toNat : Int)
theorem bt_get {s : ByteArray} {i : Int} (h0 : 0 ≤ i) (h : i < s.size) : ∃ b : UInt8, s[i.toNat]? = some b ∧ (b.toNat : Int) = bt s i := by
  have hs : i.toNat < s.size := by omega
  refine ⟨s[i.toNat], by simp [hs], ?_⟩
  unfold bt
  have hd : i.toNat < s.data.size := hs
  rw [Array.getD_eq_getD_getElem?, Array.getElem?_eq_getElem hd]
  rfl

def arg (fr : Fr) : Operand → Option AV
  | .tmp t => look fr t
  | .const v => some (.lit v)
  | .func f => some (.lit (.func (.func f) #[] #[]))
  | .global g => some (.lit (.pointer (some ⟨g, 0, none⟩)))

theorem arg_ok {op : Op} {fr : Fr} {Z : Nat → Prop} {w : World} {tmps : Array Value} (h : FrOn (opTmps op) fr Z w tmps) {x : Operand} {a : AV} (hx : arg fr x = some a) (hm : x ∈ op.operands) : a.p Z w ((⟨tmps, []⟩ : Act).eval x) := by
  cases x with
  | tmp t =>
    refine h t ?_ a hx
    unfold opTmps
    rw [List.mem_filterMap]
    exact ⟨.tmp t, by simpa using hm, rfl⟩
  | const v => simp [arg] at hx; subst hx; rfl
  | func f => simp [arg] at hx; subst hx; rfl
  | global g => simp [arg] at hx; subst hx; rfl

section
variable {P : Program} {n : Nat} {H : List Res} {ty t t' e : TypeId} {fr : Fr}

def Rho (op : Op) (fr : Fr) (Z : Nat → Prop) (w : World) (ρ : Operand → Value) : Prop := ∀ {x : Operand} {a : AV}, x ∈ op.operands → arg fr x = some a → a.p Z w (ρ x)

theorem D.of {op : Op} {av : AV} (h : ∀ (o : Oper), o.op = op → o.type = ty → ∀ (w : World) (Z F : Nat → Prop) (ρ : Operand → Value), HAll H Z w F → Rho op fr Z w ρ → ∃ v, (execOp ρ o).run P w = .ok (.value v) w ∧ av.p Z w v) : D P n H op ty fr av := by
  intro o ho hty w0 F0 Z0 w F Z tmps hn hi hf
  obtain ⟨v, hr, hv⟩ := h o ho hty w Z F (⟨tmps, []⟩ : Act).eval hi.res fun hm hx => arg_ok hf hx hm
  exact .inl ⟨v, w, hr, Calm.same hv⟩

theorem dMv {x : Operand} {a : AV} (hx : arg fr x = some a) : D P n H (.move x) ty fr a :=
  .of fun o ho hty w Z F ρ _ hf => ⟨_, by simp [execOp, ho, go_sem], hf (by simp [Op.operands]) hx⟩
theorem dAs {x : Operand} {a : AV} (hx : arg fr x = some a) : D P n H (.assign x) ty fr a :=
  .of fun o ho hty w Z F ρ _ hf => ⟨_, by simp [execOp, ho, go_sem], hf (by simp [Op.operands]) hx⟩

/-! ### Numbers -/
section
variable {x y : Operand} {k : IntKind} {a b : Int}

theorem dBin {op : BinOp} {r : Value} (hx : arg fr x = some (Ai k a)) (hy : arg fr y = some (Ai k b)) (hr : ∀ w, (binOp op t (.int k a) (.int k b)).run P w = .ok r w) : D P n H (.binOp op t x y t') ty fr (.lit r) :=
  .of fun o ho hty w Z F ρ _ hf => by
    have h1 : ρ x = _ := hf (by simp [Op.operands]) hx
    have h2 : ρ y = _ := hf (by simp [Op.operands]) hy
    exact ⟨r, by simp [execOp, ho, h1, h2, hr, go_sem], rfl⟩
theorem dAdd (hx : arg fr x = some (Ai k a)) (hy : arg fr y = some (Ai k b)) : D P n H (.binOp .add t x y t') ty fr (Ai k (k.wrap (a + b))) := dBin hx hy fun w => by simp [go_sem, Op.intArith]
theorem dSub (hx : arg fr x = some (Ai k a)) (hy : arg fr y = some (Ai k b)) : D P n H (.binOp .sub t x y t') ty fr (Ai k (k.wrap (a - b))) := dBin hx hy fun w => by simp [go_sem, Op.intArith]
theorem dMul (hx : arg fr x = some (Ai k a)) (hy : arg fr y = some (Ai k b)) : D P n H (.binOp .mul t x y t') ty fr (Ai k (k.wrap (a * b))) := dBin hx hy fun w => by simp [go_sem, Op.intArith]
theorem dQuo (hx : arg fr x = some (Ai k a)) (hy : arg fr y = some (Ai k b)) (hb : b ≠ 0) : D P n H (.binOp .quo t x y t') ty fr (Ai k (k.wrap (a.tdiv b))) := dBin hx hy fun w => by simp [binOp_quo, Op.intDiv, hb, go_sem]
theorem dRem (hx : arg fr x = some (Ai k a)) (hy : arg fr y = some (Ai k b)) (hb : b ≠ 0) : D P n H (.binOp .rem t x y t') ty fr (Ai k (a.tmod b)) := dBin hx hy fun w => by simp [binOp_rem, Op.intDiv, hb, go_sem]
def iand (k : IntKind) (a b : Int) : Int := k.wrap ((BitVec.ofInt k.bits a &&& BitVec.ofInt k.bits b).toNat : Int)
def ior (k : IntKind) (a b : Int) : Int := k.wrap ((BitVec.ofInt k.bits a ||| BitVec.ofInt k.bits b).toNat : Int)
def ixor (k : IntKind) (a b : Int) : Int := k.wrap ((BitVec.ofInt k.bits a ^^^ BitVec.ofInt k.bits b).toNat : Int)
def iandnot (k : IntKind) (a b : Int) : Int := k.wrap ((BitVec.ofInt k.bits a &&& ~~~BitVec.ofInt k.bits b).toNat : Int)
def ishl (k : IntKind) (a b : Int) : Int := k.wrap (a * 2 ^ (min b.toNat k.bits))
def ishr (k : IntKind) (a b : Int) : Int := a.fdiv (2 ^ (min b.toNat k.bits))
theorem dAnd (hx : arg fr x = some (Ai k a)) (hy : arg fr y = some (Ai k b)) : D P n H (.binOp .and t x y t') ty fr (Ai k (iand k a b)) := dBin hx hy fun w => by simp [binOp_and, Op.intBits, iand]
theorem dOr (hx : arg fr x = some (Ai k a)) (hy : arg fr y = some (Ai k b)) : D P n H (.binOp .or t x y t') ty fr (Ai k (ior k a b)) := dBin hx hy fun w => by simp [binOp_or, Op.intBits, ior]
theorem dXor (hx : arg fr x = some (Ai k a)) (hy : arg fr y = some (Ai k b)) : D P n H (.binOp .xor t x y t') ty fr (Ai k (ixor k a b)) := dBin hx hy fun w => by simp [binOp_xor, Op.intBits, ixor]
theorem dAndNot (hx : arg fr x = some (Ai k a)) (hy : arg fr y = some (Ai k b)) : D P n H (.binOp .andNot t x y t') ty fr (Ai k (iandnot k a b)) := dBin hx hy fun w => by simp [binOp_andNot, Op.intBits, iandnot]
theorem dShl {j : IntKind} (hx : arg fr x = some (Ai k a)) (hy : arg fr y = some (Ai j b)) (hb : 0 ≤ b) : D P n H (.binOp .shl t x y t') ty fr (Ai k (ishl k a b)) :=
  .of fun o ho hty w Z F ρ _ hf => by
    have h1 : ρ x = _ := hf (by simp [Op.operands]) hx
    have h2 : ρ y = _ := hf (by simp [Op.operands]) hy
    have hb' : ¬ b < 0 := by omega
    exact ⟨.int k (ishl k a b), by simp [execOp, ho, h1, h2, eqGuard_shl, binOp_shl, Op.shift, hb', ishl], rfl⟩
theorem dShr {j : IntKind} (hx : arg fr x = some (Ai k a)) (hy : arg fr y = some (Ai j b)) (hb : 0 ≤ b) : D P n H (.binOp .shr t x y t') ty fr (Ai k (ishr k a b)) :=
  .of fun o ho hty w Z F ρ _ hf => by
    have h1 : ρ x = _ := hf (by simp [Op.operands]) hx
    have h2 : ρ y = _ := hf (by simp [Op.operands]) hy
    have hb' : ¬ b < 0 := by omega
    exact ⟨.int k (ishr k a b), by simp [execOp, ho, h1, h2, eqGuard_shr, binOp_shr, Op.shift, hb', ishr], rfl⟩
theorem dLt (hx : arg fr x = some (Ai k a)) (hy : arg fr y = some (Ai k b)) : D P n H (.binOp .lss t x y t') ty fr (Ab (decide (a < b))) := dBin hx hy fun w => by simp [go_sem]
theorem dLe (hx : arg fr x = some (Ai k a)) (hy : arg fr y = some (Ai k b)) : D P n H (.binOp .leq t x y t') ty fr (Ab (decide (a ≤ b))) := dBin hx hy fun w => by simp [go_sem]
theorem dGt (hx : arg fr x = some (Ai k a)) (hy : arg fr y = some (Ai k b)) : D P n H (.binOp .gtr t x y t') ty fr (Ab (decide (b < a))) := dBin hx hy fun w => by simp [go_sem]
theorem dGe (hx : arg fr x = some (Ai k a)) (hy : arg fr y = some (Ai k b)) : D P n H (.binOp .geq t x y t') ty fr (Ab (decide (b ≤ a))) := dBin hx hy fun w => by simp [go_sem]
theorem dEq (hx : arg fr x = some (Ai k a)) (hy : arg fr y = some (Ai k b)) : D P n H (.binOp .eql t x y t') ty fr (Ab (decide (a = b))) := dBin hx hy fun w => by simp [go_sem, Bool.beq_eq_decide_eq]
theorem dNe (hx : arg fr x = some (Ai k a)) (hy : arg fr y = some (Ai k b)) : D P n H (.binOp .neq t x y t') ty fr (Ab (decide (a ≠ b))) := dBin hx hy fun w => by
  simp [go_sem, bne, Bool.beq_eq_decide_eq]
theorem dNeg (hx : arg fr x = some (Ai k a)) : D P n H (.unOp .neg t x) ty fr (Ai k (k.wrap (-a))) :=
  .of fun o ho hty w Z F ρ _ hf => by
    have h1 : ρ x = _ := hf (by simp [Op.operands]) hx
    exact ⟨.int k (k.wrap (-a)), by simp [execOp, ho, h1, go_sem], rfl⟩
theorem dConv {k' : IntKind} {u : TypeDesc} (hs : P.underlying t = some u) (hd : P.underlying t' = some (.int k')) (hx : arg fr x = some (Ai k a)) : D P n H (.convert t t' x) ty fr (Ai k' (k'.wrap a)) :=
  .of fun o ho hty w Z F ρ _ hf => by
    have h1 : ρ x = _ := hf (by simp [Op.operands]) hx
    exact ⟨.int k' (k'.wrap a), by simp [execOp, ho, h1, convert, run_underlying hs, run_underlying hd, Sem.run_bind, Conv.intToInt], rfl⟩
end

/-! ### Truth values -/
theorem dNot {x : Operand} {b : Bool} (hx : arg fr x = some (Ab b)) : D P n H (.unOp .not t x) ty fr (Ab (!b)) :=
  .of fun o ho hty w Z F ρ _ hf => by
    have h1 : ρ x = _ := hf (by simp [Op.operands]) hx
    exact ⟨.bool (!b), by simp [execOp, ho, h1, go_sem], rfl⟩
theorem dNotP {x : Operand} {p : Prop} [Decidable p] (hx : arg fr x = some (Ab (decide p))) : D P n H (.unOp .not t x) ty fr (Ab (decide (¬ p))) := by
  have h := dNot (P := P) (n := n) (H := H) (ty := ty) (t := t) hx
  have e : (!decide p) = decide (¬ p) := by simp
  rw [e] at h; exact h
theorem dPickT {c x y : Operand} {b : Bool} {a : AV} (hc : arg fr c = some (Ab b)) (hb : b = true) (hx : arg fr x = some a) : D P n H (.pick c x y) ty fr a :=
  .of fun o ho hty w Z F ρ _ hf => by
    have h1 : ρ c = _ := hf (by simp [Op.operands]) hc
    exact ⟨_, by simp [execOp, ho, h1, hb, go_sem], hf (by simp [Op.operands]) hx⟩
theorem dPickF {c x y : Operand} {b : Bool} {a : AV} (hc : arg fr c = some (Ab b)) (hb : b = false) (hy : arg fr y = some a) : D P n H (.pick c x y) ty fr a :=
  .of fun o ho hty w Z F ρ _ hf => by
    have h1 : ρ c = _ := hf (by simp [Op.operands]) hc
    exact ⟨_, by simp [execOp, ho, h1, hb, go_sem], hf (by simp [Op.operands]) hy⟩
theorem eql_bool {a b : Bool} {w : World} (ht : P.underlying t = some .bool) : (binOp .eql t (.bool a) (.bool b)).run P w = .ok (.bool (decide (a = b))) w := by
  simp only [binOp, Op.equal, Op.maxDepth, Sem.run_bind, run_equalIn_bool' w 9999 t a b ht, Result.andThen_ok, Sem.run_pure]
  rw [Bool.beq_eq_decide_eq]
theorem neq_bool {a b : Bool} {w : World} (ht : P.underlying t = some .bool) : (binOp .neq t (.bool a) (.bool b)).run P w = .ok (.bool (decide (a ≠ b))) w := by
  simp only [binOp, Op.equal, Op.maxDepth, Sem.run_bind, run_equalIn_bool' w 9999 t a b ht, Result.andThen_ok, Sem.run_pure]
  cases a <;> cases b <;> rfl
theorem dEqB {x y : Operand} {a b : Bool} (ht : P.underlying t = some .bool) (hx : arg fr x = some (Ab a)) (hy : arg fr y = some (Ab b)) : D P n H (.binOp .eql t x y t') ty fr (Ab (decide (a = b))) :=
  .of fun o ho hty w Z F ρ _ hf => by
    have h1 : ρ x = _ := hf (by simp [Op.operands]) hx
    have h2 : ρ y = _ := hf (by simp [Op.operands]) hy
    exact ⟨.bool (decide (a = b)), by simp [execOp, ho, h1, h2, eqGuard_at_bool, eql_bool ht, Sem.run_bind], rfl⟩
theorem dNeB {x y : Operand} {a b : Bool} (ht : P.underlying t = some .bool) (hx : arg fr x = some (Ab a)) (hy : arg fr y = some (Ab b)) : D P n H (.binOp .neq t x y t') ty fr (Ab (decide (a ≠ b))) :=
  .of fun o ho hty w Z F ρ _ hf => by
    have h1 : ρ x = _ := hf (by simp [Op.operands]) hx
    have h2 : ρ y = _ := hf (by simp [Op.operands]) hy
    exact ⟨.bool (decide (a ≠ b)), by simp [execOp, ho, h1, h2, eqGuard_at_bool, neq_bool ht, Sem.run_bind], rfl⟩

/-! ### Slices that are read -/
theorem dLen {T : Type} {co : Co T} {xs : List T} {x : Operand} (ht : P.underlying t = some (.slice e)) (hx : arg fr x = some (.fsl co xs)) : D P n H (.call ⟨.builtin .len, #[x], #[t]⟩) ty fr (Ai .i64 xs.length) :=
  .of fun o ho hty w Z F ρ _ hf => by
    obtain ⟨A, c, h1, _⟩ := hf (by simp [Op.operands, Call.operands]) hx
    exact ⟨.int .i64 xs.length, by simp [execOp, ho, h1, resolve, invoke, builtin, Builtin.len_, run_underlying ht, goInt, Sem.run_bind], rfl⟩
theorem dLenS {s : ByteArray} {x : Operand} (ht : P.underlying t = some .string) (hx : arg fr x = some (.lit (.string s))) : D P n H (.call ⟨.builtin .len, #[x], #[t]⟩) ty fr (Ai .i64 s.size) :=
  .of fun o ho hty w Z F ρ _ hf => by
    have h1 : ρ x = _ := hf (by simp [Op.operands, Call.operands]) hx
    exact ⟨.int .i64 s.size, by simp [execOp, ho, h1, resolve, invoke, builtin, Builtin.len_, run_underlying ht, goInt, Sem.run_bind], rfl⟩
def IsAgg (P : Program) (t : TypeId) (b : Bool) : Prop := ∀ w, (isAgg t).run P w = .ok b w
def SizeIs (P : Program) (t : TypeId) (k : Nat) : Prop := ∀ w, (sizeOf t).run P w = .ok k w
/-- Where field j of a struct type's variable stands. -/
def FA (P : Program) (t : TypeId) (j off : Nat) : Prop := ∀ a w, (Instr.fieldAt t (.pointer (some a)) j).run P w = .ok (.pointer (some (a.add off))) w

theorem dIx {T : Type} [Inhabited T] {co : Co T} {xs : List T} {x y : Operand} {k : IntKind} {i : Int} (ht : P.underlying t = some (.slice e)) (hsz : SizeIs P e co.sz) (hx : arg fr x = some (.fsl co xs)) (hy : arg fr y = some (Ai k i)) (h0 : 0 ≤ i) (h1 : i < xs.length) :
    D P n H (.indexAddr t x y) ty fr (.fptr (co.e (rd xs i))) :=
  .of fun o ho hty w Z F ρ _ hf => by
    obtain ⟨A, m, e1, hc, hel⟩ := hf (by simp [Op.operands]) hx
    have e2 : ρ y = _ := hf (by simp [Op.operands]) hy
    obtain ⟨a, rfl, hb, hat⟩ := hel i.toNat _ (rd_get h0 h1)
    refine ⟨.pointer (some (a.add (i.toNat * co.sz))), ?_, _, rfl, by rw [add_block]; exact hb, hat⟩
    simp [execOp, ho, e1, e2, Instr.indexAt, run_underlying ht, hsz _, Sem.run_bind, asIntOf, h0, h1]

theorem dIxS {s : ByteArray} {x y : Operand} {k : IntKind} {i : Int} (ht : P.underlying t = some .string) (hx : arg fr x = some (.lit (.string s))) (hy : arg fr y = some (Ai k i)) (h0 : 0 ≤ i) (h1 : i < s.size) : D P n H (.index t x y) ty fr (Ai .u8 (bt s i)) :=
  .of fun o ho hty w Z F ρ _ hf => by
    have e1 : ρ x = _ := hf (by simp [Op.operands]) hx
    have e2 : ρ y = _ := hf (by simp [Op.operands]) hy
    obtain ⟨b, hb, hv⟩ := bt_get h0 h1
    exact ⟨.int .u8 (bt s i), by simp [execOp, ho, e1, e2, Instr.index, run_underlying ht, Sem.run_bind, asIntOf, h0, hb, hv], rfl⟩

theorem dFA {x : Operand} {as : List AV} {j off : Nat} (hf' : FA P t j off) (hx : arg fr x = some (.fptr as)) : D P n H (.fieldAddr t x j) ty fr (.fptr (as.drop off)) :=
  .of fun o ho hty w Z F ρ _ hf => by
    obtain ⟨a, e1, hb, hat⟩ := hf (by simp [Op.operands]) hx
    exact ⟨_, by simp [execOp, ho, e1, hf' a w, Sem.run_bind], _, rfl, by rw [add_block]; exact hb, hat.drop off⟩

theorem load_one {a : Addr} {v : Value} {w : World} (hg : IsAgg P t false) (h : w.cell? a = some v) : (Instr.loadAt t (.pointer (some a))).run P w = .ok v w := by
  simp [Instr.loadAt, Instr.sureAddr, loadVar, Sem.run_bind, hg w, load, Sem.run, h]
theorem load_agg {a : Addr} {vs : List Value} {w : World} {k : Nat} (hg : IsAgg P t true) (hs : SizeIs P t k) (hl : vs.length = k) (h : ∀ j u, vs[j]? = some u → w.cell? (a.add j) = some u) : (Instr.loadAt t (.pointer (some a))).run P w = .ok (.agg vs.toArray) w := by
  have := run_loadCells_list (P := P) w a vs h
  subst hl
  simp [Instr.loadAt, Instr.sureAddr, loadVar, Sem.run_bind, hg w, hs w, this]

theorem dLd {x : Operand} {as : List AV} {a : AV} (hg : IsAgg P t false) (hx : arg fr x = some (.fptr as)) (ha : as[0]? = some a) : D P n H (.load t x) ty fr a :=
  .of fun o ho hty w Z F ρ _ hf => by
    obtain ⟨ad, e1, hb, vs, h1, h2⟩ := hf (by simp [Op.operands]) hx
    obtain ⟨v, hv, hp⟩ := h1.get ha
    exact ⟨v, by simp [execOp, ho, e1, load_one (a := ad) (v := v) hg (by have := h2 0 v hv; rwa [Addr.add_zero'] at this), Sem.run_bind], hp⟩
theorem dLdA {x : Operand} {as : List AV} {k : Nat} (hg : IsAgg P t true) (hs : SizeIs P t k) (hx : arg fr x = some (.fptr as)) (hk : k ≤ as.length) : D P n H (.load t x) ty fr (.agg (as.take k)) :=
  .of fun o ho hty w Z F ρ _ hf => by
    obtain ⟨ad, e1, hb, vs, h1, h2⟩ := hf (by simp [Op.operands]) hx
    have hl := h1.length
    refine ⟨.agg (vs.take k).toArray, ?_, _, rfl, h1.take k⟩
    simp [execOp, ho, e1, load_agg (a := ad) (vs := vs.take k) hg hs (by simp; omega) (fun j u hj => h2 j u (by rw [List.getElem?_take] at hj; split at hj; exact hj; cases hj)), Sem.run_bind]

/-! ### Structs as values -/
theorem cells_one {v : Value} (h : v.oneCell' = true) : v.cells = #[v] := by cases v <;> first | rfl | (simp [Value.oneCell'] at h)
/-- The cells of a slot's value. -/
def CellsOf (a : AV) (as : List AV) : Prop := ∀ Z w v, a.p Z w v → AllP Z w as v.cells.toList
theorem cOne {a : AV} (h : a.One) : CellsOf a [a] := fun Z w v hv => by rw [cells_one (h Z w v hv)]; exact .cons hv .nil
theorem cAgg {as : List AV} : CellsOf (.agg as) as := fun Z w v ⟨vs, e, h⟩ => by rw [e]; simpa [Value.cells] using h

theorem part_one {cs : List Value} {v : Value} {off : Nat} {w : World} (hg : IsAgg P t false) (h : cs[off]? = some v) : (part t cs.toArray off).run P w = .ok v w := by
  simp [part, Sem.run_bind, hg w, h]
theorem part_agg {cs : List Value} {off k : Nat} {w : World} (hg : IsAgg P t true) (hs : SizeIs P t k) : (part t cs.toArray off).run P w = .ok (.agg ((cs.drop off).take k).toArray) w := by
  simp [part, Sem.run_bind, hg w, hs w, List.extract_eq_drop_take']
theorem dFl {x : Operand} {as : List AV} {a : AV} {fs : Array Field} {fd : Field} {j : Nat} (ht : P.underlying t = some (.struct fs)) (hj : fs[j]? = some fd) (hg : IsAgg P fd.type false) (hx : arg fr x = some (.agg as)) (ha : as[fd.offset]? = some a) : D P n H (.field t x j) ty fr a :=
  .of fun o ho hty w Z F ρ _ hf => by
    obtain ⟨vs, e1, h1⟩ := hf (by simp [Op.operands]) hx
    obtain ⟨v, hv, hp⟩ := h1.get ha
    exact ⟨v, by simp [execOp, ho, e1, Instr.field, run_underlying ht, hj, asAgg, part_one hg hv, Sem.run_bind], hp⟩
theorem dFlA {x : Operand} {as : List AV} {k : Nat} {fs : Array Field} {fd : Field} {j : Nat} (ht : P.underlying t = some (.struct fs)) (hj : fs[j]? = some fd) (hg : IsAgg P fd.type true) (hs : SizeIs P fd.type k) (hx : arg fr x = some (.agg as)) : D P n H (.field t x j) ty fr (.agg ((as.drop fd.offset).take k)) :=
  .of fun o ho hty w Z F ρ _ hf => by
    obtain ⟨vs, e1, h1⟩ := hf (by simp [Op.operands]) hx
    exact ⟨_, by simp only [execOp, ho, e1, Instr.field, run_underlying ht, hj, asAgg, part_agg hg hs, Sem.run_bind, Result.andThen_ok, Sem.run_pure], _, rfl, (h1.drop _).take k⟩
theorem dX {x : Operand} {as : List AV} {a : AV} {i : Nat} (hx : arg fr x = some (.tup as)) (ha : as[i]? = some a) : D P n H (.extract x i) ty fr a :=
  .of fun o ho hty w Z F ρ _ hf => by
    obtain ⟨vs, e, h1⟩ := hf (by simp [Op.operands]) hx
    obtain ⟨v, hv, hp⟩ := h1.get ha
    exact ⟨v, by simp [execOp, ho, e, Instr.extract, hv, Sem.run_bind], hp⟩
end
end S
end Go.Proofs.Ytpjhcllohagjoaa
