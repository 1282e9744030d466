/-
  Sim, the rows: an argument that reads as data is a value of the frame; a law that answers true makes its row. Own work; no claim stands here.
-/
import Derived.Test.YtpjhcllohagjoaaSH
import Derived.Test.YtpjhcllohagjoaaRows
import Derived.WalkKit
import Derived.ProofKit
import Derived.OpenShut
import Derived.ShutString
import Derived.ChangeOld
import Derived.Below
import Derived.SizedLaws
import Derived.ReadAgain
import Derived.Deep.Slices
namespace Go.Proofs.Ytpjhcllohagjoaa
namespace S
open Go.RowKit Go.ChangeShapes Go.WideShapes
set_option linter.unusedVariables false
set_option linter.unusedSimpArgs false

section
variable {H : Type} {enc : TypeId × Value → H} {P : Program} {W : World}

/-- The blocks that are there. -/
def Zof (W : World) (b : Nat) : Prop := b < W.heap.size

def Fits {H : Type} (P : Program) (t : TypeId) (d : DataW H) : Prop := (d.weights P t).all (· ≤ reachBytes) = true

/-- What reads as data of type t is a value of the codec's. -/
def Opn {T : Type} (enc : TypeId × Value → H) (P : Program) (W : World) (t : TypeId) (c : Co T) (wf : T → Prop) : Prop :=
  ∀ (n : Nat) (cs : List Value) (x : DataW H × List MemPlace), DataW.trod enc P W 0 (fun _ => true) true n t cs = some x → Fits P t x.1 → ∃ v, AllP (Zof W) W (c.e v) cs ∧ wf v

def wfI (k : IntKind) (n : Int) : Prop := (Lit.int k n).wf = true
def wfB (_ : Bool) : Prop := True
def wfS (s : ByteArray) : Prop := s.size ≤ reachBytes
def wfL {T : Type} (wf : T → Prop) (bytes : Nat) (xs : List T) : Prop := xs.length * bytes ≤ reachBytes ∧ ∀ x ∈ xs, wf x

theorem opI {t : TypeId} {k : IntKind} (ht : P.underlying t = some (.int k)) : Opn enc P W t (cI k) (wfI k) := fun n cs x h _ => by
  obtain ⟨m, rfl, _, hw⟩ := DataW.trod_int ht h
  exact ⟨m, .cons rfl .nil, hw⟩
theorem opB {t : TypeId} (ht : P.underlying t = some .bool) : Opn enc P W t cB wfB := fun n cs x h _ => by
  cases n with
  | zero => simp [DataW.trod] at h
  | succ n =>
    unfold DataW.trod at h
    rw [ht] at h
    split at h <;> first | (rename_i b _; exact ⟨b, .cons rfl .nil, trivial⟩) | simp_all
theorem opS {t : TypeId} (ht : P.underlying t = some .string) : Opn enc P W t cS wfS := fun n cs x h hw => by
  cases n with
  | zero => simp [DataW.trod] at h
  | succ n =>
    unfold DataW.trod at h
    rw [ht] at h
    split at h <;> first | (rename_i s _; split at h; simp only [Option.some.injEq] at h; subst h; exact ⟨s, .cons rfl .nil, by simpa [Fits, DataW.weights, wfS] using hw⟩; cases h) | simp_all

theorem cell_lt {w : World} {a : Addr} {u : Value} (h : w.cell? a = some u) : a.block < w.heap.size := by
  rcases Nat.lt_or_ge a.block w.heap.size with hl | hl
  · exact hl
  · exfalso
    unfold World.cell? at h
    rw [Array.getElem?_eq_none hl] at h
    simp at h

theorem list_of {T : Type} {p : Nat → T → Prop} : ∀ len, (∀ i, i < len → ∃ v, p i v) → ∃ xs : List T, xs.length = len ∧ ∀ i x, xs[i]? = some x → p i x := by
  intro len
  induction len with
  | zero => intro _; exact ⟨[], rfl, by simp⟩
  | succ len ih =>
    intro hel
    obtain ⟨xs, h1, h2⟩ := ih fun i hi => hel i (by omega)
    obtain ⟨v, hv⟩ := hel len (by omega)
    refine ⟨xs ++ [v], by simp [h1], fun i x hx => ?_⟩
    rw [List.getElem?_append] at hx
    split at hx
    · exact h2 i x hx
    · have : i = len := by
        rcases Nat.eq_zero_or_pos (i - xs.length) with h | h
        · omega
        · rw [List.getElem?_eq_none (by simp; omega)] at hx; cases hx
      subst this
      simp [h1] at hx
      subst hx; exact hv

theorem weightsAll_mem {e : TypeId} {ds : List (DataW H)} (h : ∀ q ∈ DataW.weightsAll P e ds, q ≤ reachBytes) : ∀ d ∈ ds, Fits P e d := by
  induction ds with
  | nil => simp
  | cons d ds ih =>
    intro y hy
    simp only [DataW.weightsAll, List.mem_append] at h
    rcases List.mem_cons.1 hy with rfl | hy
    · simp only [Fits, List.all_eq_true, decide_eq_true_eq]
      exact fun q hq => h q (.inl hq)
    · exact ih (fun q hq => h q (.inr hq)) y hy
theorem weightsEach_get {ts : List TypeId} {ds : List (DataW H)} (h : ∀ q ∈ DataW.weightsEach P ts ds, q ≤ reachBytes) : ∀ (i : Nat) (t : TypeId) (d : DataW H), ts[i]? = some t → ds[i]? = some d → Fits P t d := by
  induction ts generalizing ds with
  | nil => intro i t d ht; simp at ht
  | cons t ts ih =>
    intro i t' d' ht hd
    cases ds with
    | nil => simp at hd
    | cons d ds =>
      simp only [DataW.weightsEach, List.mem_append] at h
      cases i with
      | zero =>
        simp at ht hd; subst ht hd
        simp only [Fits, List.all_eq_true, decide_eq_true_eq]
        exact fun q hq => h q (.inl hq)
      | succ i => exact ih (fun q hq => h q (.inr hq)) i t' d' (by simpa using ht) (by simpa using hd)

theorem opL {T : Type} {t e : TypeId} {c : Co T} {wf : T → Prop} {bytes : Nat} (ht : P.underlying t = some (.slice e)) (hs : P.cellsOf e = c.sz) (hb : P.bytesOf e = bytes) (ho : Opn enc P W e c wf) : Opn enc P W t (cL c) (wfL wf bytes) := fun n cs x h hw => by
  rcases Deep.open_slice ht h with ⟨rfl, rfl⟩ | ⟨a, len, cap, m, k, D, Pl, rfl, _, hl, hm, hmm, rfl, hx⟩
  · exact ⟨[], .cons ⟨none, 0, rfl, Nat.le_refl _, fun i x hx => by simp at hx⟩ .nil, by simp, by simp⟩
  · simp only [if_true] at hmm
    subst hmm
    simp only [Fits, List.all_eq_true, decide_eq_true_eq, DataW.weights, ht, List.mem_cons, List.mem_append, List.length_map, List.length_range] at hw
    have hfit : ∀ i, i < len → Fits P e (D i) := fun i hi => weightsAll_mem (fun q hq => hw q (.inr (.inl hq))) _ (List.mem_map.2 ⟨i, List.mem_range.2 hi, rfl⟩)
    have hel : ∀ i, i < len → ∃ v, At (Zof W) W (a.add (i * c.sz)) (c.e v) ∧ a.block < W.heap.size ∧ wf v := fun i hi => by
      obtain ⟨cs', h1, h2⟩ := hx i (by omega)
      obtain ⟨v, h3, h4⟩ := ho k cs' _ h2 (hfit i hi)
      rw [hs] at h1
      obtain ⟨_, hlen, hcell⟩ := World.cells?_some h1
      have hpos := c.pos
      refine ⟨v, ⟨cs', h3, fun j u hu => ?_⟩, ?_, h4⟩
      · have : j < c.sz := by
          rcases Nat.lt_or_ge j cs'.length with h | h
          · omega
          · simp [h] at hu
        rw [hcell j this, hu]
      · have := hcell 0 hpos
        rw [List.getElem?_eq_getElem (by omega)] at this
        have hb := cell_lt this
        rwa [add_block, add_block] at hb
    obtain ⟨xs, hxl, hxs⟩ := list_of len hel
    subst hxl
    refine ⟨xs, .cons ⟨some a, _, rfl, hl, fun i x hi => ⟨a, rfl, (hxs i x hi).2.1, (hxs i x hi).1⟩⟩ .nil, ?_, fun x hx => ?_⟩
    · have := hw _ (.inl rfl)
      rw [hb] at this
      exact Nat.le_trans (Nat.mul_le_mul_right _ (by omega)) this
    · obtain ⟨i, hi⟩ := List.getElem?_of_mem hx
      exact (hxs i x hi).2.2

/-- A struct's parts. -/
theorem struct_parts {t : TypeId} {fs : Array Field} {n : Nat} {cs : List Value} {x : DataW H × List MemPlace} (ht : P.underlying t = some (.struct fs)) (h : DataW.trod enc P W 0 (fun _ => true) true n t cs = some x) (hw : Fits P t x.1) :
    cs.length = P.cellsOf t ∧ ∃ m, ∀ (i : Nat) (f : Field), fs[i]? = some f → ∃ y, DataW.trod enc P W 0 (fun _ => true) true m f.type ((cs.drop f.offset).take (P.cellsOf f.type)) = some y ∧ Fits P f.type y.1 := by
  obtain ⟨xs, m, rfl, rfl, hl, hx, hf⟩ := DataW.trod_struct ht h
  refine ⟨hl, m, fun i f hi => ?_⟩
  have hi' : i < xs.length := by
    rw [hx]
    rcases Nat.lt_or_ge i fs.size with h | h
    · exact h
    · simp [h] at hi
  refine ⟨xs[i], by rw [hf i f hi]; simp [hi'], ?_⟩
  simp only [Fits, List.all_eq_true, decide_eq_true_eq, DataW.weights, ht] at hw
  exact weightsEach_get hw i f.type xs[i].1 (by simp [hi]) (by simp [hi'])

theorem struct_get {T : Type} {c : Co T} {wf : T → Prop} {fs : Array Field} {m : Nat} {cs : List Value} (hf : ∀ (i : Nat) (f : Field), fs[i]? = some f → ∃ y : DataW H × List MemPlace, DataW.trod enc P W 0 (fun _ => true) true m f.type ((cs.drop f.offset).take (P.cellsOf f.type)) = some y ∧ Fits P f.type y.1)
    (i : Nat) {f : Field} {off ft s : Nat} (h1 : fs[i]? = some f) (h2 : f.offset = off) (h3 : f.type = ft) (h4 : P.cellsOf ft = s) (ho : Opn enc P W ft c wf) : ∃ v, AllP (Zof W) W (c.e v) ((cs.drop off).take s) ∧ wf v := by
  obtain ⟨y, g1, g2⟩ := hf i f h1
  rw [h2, h3, h4] at g1
  rw [h3] at g2
  exact ho m _ y g1 g2

theorem AllP.piece {Z : Nat → Prop} {w : World} {az bs : List AV} {cs : List Value} {off s : Nat} (h1 : AllP Z w az ((cs.drop off).take s)) (h2 : AllP Z w bs (cs.drop (off + s))) : AllP Z w (az ++ bs) (cs.drop off) := by
  have : cs.drop off = (cs.drop off).take s ++ cs.drop (off + s) := by rw [← List.drop_drop, List.take_append_drop]
  rw [this]
  exact h1.append h2
theorem AllP.stop {Z : Nat → Prop} {w : World} {cs : List Value} {n : Nat} (h : cs.length = n) : AllP Z w [] (cs.drop n) := by
  rw [List.drop_eq_nil_of_le (by omega)]; exact .nil

/-! ### Arguments -/
/-- The frame's value of an argument. -/
def ArgOk {T : Type} (enc : TypeId × Value → H) (P : Program) (W : World) (t : TypeId) (av : T → AV) (wf : T → Prop) : Prop :=
  ∀ (r : Reach) (b0 : Nat) (v : Value) (d : DataW H) (ps : List MemPlace), Value.okWide P W r b0 t v → DataW.Trod enc P W 0 (fun _ => true) true t v d ps → Fits P t d → ∃ x, (av x).p (Zof W) W v ∧ wf x

theorem argI {t : TypeId} {k : IntKind} (ht : P.underlying t = some (.int k)) : ArgOk enc P W t (fun n => Ai k n) (wfI k) := fun r b0 v d ps hv hd _ => by
  obtain ⟨n, rfl, _, _, hw⟩ := open_int ht hv hd
  exact ⟨n, rfl, hw⟩
theorem argB {t : TypeId} (ht : P.underlying t = some .bool) : ArgOk enc P W t (fun b => Ab b) wfB := fun r b0 v d ps hv hd _ => by
  obtain ⟨b, rfl, _⟩ := open_bool ht hv hd
  exact ⟨b, rfl, trivial⟩
theorem argS {t : TypeId} (ht : P.underlying t = some .string) : ArgOk enc P W t (fun s => .lit (.string s)) wfS := fun r b0 v d ps hv hd hw => by
  obtain ⟨s, rfl, hd', _⟩ := Go.ChangeMaps.open_string ht hv hd
  obtain ⟨n, hd⟩ := hd
  obtain ⟨v, h1, h2⟩ := opS ht n _ _ hd hw
  cases h1 with
  | cons h1 _ => exact ⟨v, h1, h2⟩
theorem argL {T : Type} {t e : TypeId} {c : Co T} {wf : T → Prop} {bytes : Nat} (ht : P.underlying t = some (.slice e)) (hs : P.cellsOf e = c.sz) (hb : P.bytesOf e = bytes) (ho : Opn enc P W e c wf) : ArgOk enc P W t (fun xs => .fsl c xs) (wfL wf bytes) := fun r b0 v d ps hv hd hw => by
  obtain ⟨n, hd⟩ := hd
  obtain ⟨xs, h1, h2⟩ := opL ht hs hb ho n _ _ hd hw
  refine ⟨xs, ?_, h2⟩
  have hcell : Cell.okWide P W r b0 t v := by simpa [Value.okWide, ht] using hv
  have hv1 : v.cells = #[v] := by
    cases v <;> first | rfl | simp [Cell.okWide, Cell.ok, ht] at hcell
  rw [hv1] at h1
  cases h1 with
  | cons h1 _ => exact h1
theorem argA {T : Type} {t : TypeId} {c : Co T} {wf : T → Prop} {fs : Array Field} (ht : P.underlying t = some (.struct fs)) (ho : Opn enc P W t c wf) : ArgOk enc P W t (fun x => .agg (c.e x)) wf := fun r b0 v d ps hv hd hw => by
  obtain ⟨n, hd⟩ := hd
  obtain ⟨x, h1, h2⟩ := ho n _ _ hd hw
  simp only [Value.okWide, ht] at hv
  obtain ⟨cs, rfl, _⟩ := hv
  exact ⟨x, ⟨cs.toList, rfl, h1⟩, h2⟩

/-- Arguments: their values in the frame, with what is well formed of them. -/
inductive ArgsOk (enc : TypeId × Value → H) (P : Program) (W : World) : List TypeId → (List AV → Prop) → Prop
  | nil {Q : List AV → Prop} : Q [] → ArgsOk enc P W [] Q
  | cons {T : Type} {t : TypeId} {ts : List TypeId} {av : T → AV} {wf : T → Prop} {Q : List AV → Prop} : ArgOk enc P W t av wf → (∀ x, wf x → ArgsOk enc P W ts fun az => Q (av x :: az)) → ArgsOk enc P W (t :: ts) Q

theorem ArgsOk.get {ts : List TypeId} {Q : List AV → Prop} (h : ArgsOk enc P W ts Q) : ∀ {vs : List Value} {ds : List (DataW H)} {ps : List MemPlace} {r : Reach} {b0 : Nat}, DataW.TrodAll enc P W 0 (fun _ => true) true ts vs ds ps → (∀ (j : Nat) t v, ts[j]? = some t → vs[j]? = some v → Value.okWide P W r b0 t v) → (∀ q ∈ DataW.weightsEach P ts ds, q ≤ reachBytes) → ∃ az, AllP (Zof W) W az vs ∧ Q az := by
  induction h with
  | nil hq =>
    intro vs ds ps r b0 ht _ _
    match vs, ds, ht with
    | [], [], _ => exact ⟨[], .nil, hq⟩
  | @cons T t ts av wf Q ha _ ih =>
    intro vs ds ps r b0 ht hv hw
    match vs, ds, ht with
    | v :: vs, d :: ds, ⟨p, q, h1, h2, _⟩ =>
      obtain ⟨x, hx, hwf⟩ := ha r b0 v d p (hv 0 t v rfl rfl) h1 (weightsEach_get hw 0 t d rfl rfl)
      obtain ⟨az, h3, h4⟩ := ih x hwf h2 (fun j t v h h' => hv (j + 1) t v (by simpa using h) (by simpa using h')) (fun q hq => hw q (by simp only [DataW.weightsEach, List.mem_append]; exact .inr hq))
      exact ⟨_, .cons hx h3, h4⟩

theorem trodAll_same {W' : World} (hk : ∀ b, b < W.heap.size → W'.heap[b]? = W.heap[b]?) : ∀ {ts : List TypeId} {vs : List Value} {ds : List (DataW H)} {ps : List MemPlace}, DataW.TrodAll enc P W 0 (fun _ => true) true ts vs ds ps → DataW.TrodAll enc P W' 0 (fun _ => true) true ts vs ds ps
  | [], [], [], _, h => h
  | _ :: _, _ :: _, _ :: _, _, ⟨p, q, ⟨n, h1⟩, h2, e⟩ => ⟨p, q, ⟨n, DataW.trod_carry n _ _ _ h1 fun x hx => by
      have hlt := DataW.trod_lt n _ _ _ h1 x hx
      cases x with
      | cell b o => exact World.cell?_of_block (w := W) (hk b hlt)
      | map b => exact hk b hlt⟩, trodAll_same hk h2, e⟩

theorem trodAll_lt : ∀ {ts : List TypeId} {vs : List Value} {ds : List (DataW H)} {ps : List MemPlace}, DataW.TrodAll enc P W 0 (fun _ => true) true ts vs ds ps → ∀ p ∈ ps, p.block < W.heap.size
  | [], [], [], _, h, p, hp => by simp [DataW.TrodAll] at h; subst h; cases hp
  | _ :: _, _ :: _, _ :: _, _, ⟨p, q, ⟨n, h1⟩, h2, e⟩, x, hx => by
    subst e
    rcases List.mem_append.1 hx with hx | hx
    · exact DataW.trod_lt n _ _ _ h1 x hx
    · exact trodAll_lt h2 x hx

theorem trodAll_len : ∀ {ts : List TypeId} {vs : List Value} {ds : List (DataW H)} {ps : List MemPlace}, DataW.TrodAll enc P W 0 (fun _ => true) true ts vs ds ps → ds.length = ts.length
  | [], [], [], _, h => rfl
  | _ :: _, _ :: _, _ :: _, _, ⟨p, q, _, h2, e⟩ => congrArg (· + 1) (trodAll_len h2)

/-- A law that answers true makes what its row asks of a call. -/
theorem law_post {f : FuncId} {fn : Func} {s : ChangeSpec} {tb : TypeId} (K : Kids P (· < P.types.size)) (hz : ∀ t e, t < P.types.size → P.underlying t = some (.slice e) → 0 < P.cellsOf e) (hp : ∀ t ∈ fn.params.toList, t < P.types.size)
    (hr : fn.resultTypes = #[tb]) (hb : P.underlying tb = some .bool) (hv : s.vars = []) (hfn : ∀ ds : List (DataW H), ds.length = fn.params.toList.length → s.fn H (ds ++ []) = ⟨[.lit (.bool true)], ds, []⟩)
    {base : Nat} {args : Array Value} {ds gs : List (DataW H)} {before : List MemPlace} (hval : ∀ (j : Nat) t v, fn.params[j]? = some t → args[j]? = some v → Value.okWide P W .any base t v) (hW : DataW.Whole enc P fn.params.toList s.vars false W args.toList ds gs before)
    (hsz : (DataW.weightsEach P (fn.params.toList ++ s.plain.varTypes P) (ds ++ gs)).all (· ≤ reachBytes) = true)
    (main : ArgsOk enc P W fn.params.toList fun az => Spec P f az [] fun a H => a = Ab true ∧ H = []) : Calls P f args W fun e W' => ∃ v, e = .returned v ∧ s.post enc P fn false true false false W args v W' := by
  have hW' := hW
  obtain ⟨p, q, hA, hV, rfl, hfz, hnd⟩ := hW
  rw [hv] at hV
  obtain ⟨rfl, rfl⟩ := trodVars_none hV
  have hlen : ds.length = fn.params.toList.length := trodAll_len hA
  have hsz' : ∀ q ∈ DataW.weightsEach P fn.params.toList ds, q ≤ reachBytes := by
    simp only [List.all_eq_true, decide_eq_true_eq] at hsz
    have hvt : s.plain.varTypes P = [] := by simp [DataSpec.varTypes, ChangeSpec.plain, hv]
    rw [hvt, List.append_nil, List.append_nil] at hsz
    exact hsz
  obtain ⟨az, h1, h2⟩ := main.get hA (r := .any) (b0 := base) (fun j t v h h' => hval j t v (by simpa using h) (by simpa using h')) hsz'
  have hc := h2 W (fun _ => False) (Zof W) args.toList h1 ⟨Base.refl _ _, fun _ h => h, fun b h => ⟨h, .inl h⟩, fun b h => h.elim, trivial⟩
  rw [Array.toArray_toList] at hc
  refine hc.mono fun e W' ⟨v, he, F, Z, a, H', ⟨ha, hH'⟩, hi, hav⟩ => ⟨v, he, ?_⟩
  subst ha
  have hk : ∀ b, b < W.heap.size → W'.heap[b]? = W.heap[b]? := fun b h => hi.base.keep b h (fun h => h)
  have hv' : v = .bool true := hav
  subst hv'
  have hall := trodAll_same hk hA
  refine ⟨ds, [], p ++ [], [], p, [], hW', ?_, ?_, ?_, ?_, fun h => by cases h⟩
  · rw [hfn ds hlen, hr]
    exact trodAll_mk1 (shut_bool hb _)
  · rw [hfn ds hlen]
    exact DataW.TrodAll.respare K hz hp hall fun x hx => by simpa using trodAll_lt hA x hx
  · rw [hfn ds hlen, hv]; rfl
  · refine ⟨hi.base.os, hi.base.output, fun i hi' => ?_⟩
    rw [hk i hi']
    split <;> simp_all
end
end S
end Go.Proofs.Ytpjhcllohagjoaa
