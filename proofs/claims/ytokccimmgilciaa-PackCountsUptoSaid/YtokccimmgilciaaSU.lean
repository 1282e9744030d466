/-
  Sim, the rows of the second form: what reads as data of bulk at most n is a value of measure at most n. Own work; no claim stands here.
-/
import Derived.Test.YtokccimmgilciaaSR
import Derived.JoinedCond
import Derived.Deep.CondSized
namespace Go.Proofs.Ytokccimmgilciaa
namespace S
open Go.RowKit Go.ChangeShapes Go.WideShapes
set_option linter.unusedVariables false
set_option linter.unusedSimpArgs false

section
variable {H : Type} {enc : TypeId × Value → H} {P : Program} {W : World}

theorem bulk_pos (d : DataW H) : 1 ≤ Rows.uptoBulk d := by
  cases d with
  | lit l => cases l <;> simp [Rows.uptoBulk]
  | nil => simp [Rows.uptoBulk]
  | ptr d => simp [Rows.uptoBulk]
  | slice elems spare => simp [Rows.uptoBulk]
  | agg parts => simp [Rows.uptoBulk]
  | iface t d => simp [Rows.uptoBulk]
  | map entries => simp [Rows.uptoBulk]
  | held h => simp [Rows.uptoBulk]
theorem bulk_mem {d : DataW H} : ∀ {l : List (DataW H)}, d ∈ l → Rows.uptoBulk d ≤ Rows.uptoBulkAll l
  | [], h => nomatch h
  | x :: r, h => by
    simp only [Rows.uptoBulkAll]
    rcases List.mem_cons.1 h with rfl | h
    · omega
    · have := bulk_mem h; omega

def OpnU {T : Type} (enc : TypeId × Value → H) (P : Program) (W : World) (t : TypeId) (c : Co T) (wf : T → Prop) (mu : T → Nat) : Prop :=
  ∀ (n : Nat) (cs : List Value) (x : DataW H × List MemPlace), DataW.trod enc P W 0 (fun _ => true) true n t cs = some x → Fits P t x.1 → ∃ v, AllP (Zof W) W (c.e v) cs ∧ wf v ∧ mu v ≤ Rows.uptoBulk x.1

def muI (_ : Int) : Nat := 1
def muB (_ : Bool) : Nat := 1
def muS (s : ByteArray) : Nat := s.size + 1
def muL {T : Type} (mu : T → Nat) (xs : List T) : Nat := (xs.map mu).sum + 1

theorem ouI {t : TypeId} {k : IntKind} (ht : P.underlying t = some (.int k)) : OpnU enc P W t (cI k) (wfI k) muI := fun n cs x h hw => by
  obtain ⟨v, h1, h2⟩ := opI ht n cs x h hw
  exact ⟨v, h1, h2, bulk_pos _⟩
theorem ouB {t : TypeId} (ht : P.underlying t = some .bool) : OpnU enc P W t cB wfB muB := fun n cs x h hw => by
  obtain ⟨v, h1, h2⟩ := opB ht n cs x h hw
  exact ⟨v, h1, h2, bulk_pos _⟩
theorem ouS {t : TypeId} (ht : P.underlying t = some .string) : OpnU enc P W t cS wfS muS := fun n cs x h hw => by
  cases n with
  | zero => simp [DataW.trod] at h
  | succ n =>
    unfold DataW.trod at h
    rw [ht] at h
    split at h <;> first | (rename_i s _; split at h; simp only [Option.some.injEq] at h; subst h; exact ⟨s, .cons rfl .nil, (by simpa [Fits, DataW.weights, wfS] using hw), (by simp [muS, Rows.uptoBulk])⟩; cases h) | simp_all

theorem sum_bulk {T : Type} {mu : T → Nat} : ∀ {xs : List T} {ds : List (DataW H)}, xs.length = ds.length → (∀ (i : Nat) x d, xs[i]? = some x → ds[i]? = some d → mu x ≤ Rows.uptoBulk d) → (xs.map mu).sum ≤ Rows.uptoBulkAll ds
  | [], [], _, _ => by simp [Rows.uptoBulkAll]
  | x :: xs, d :: ds, hl, h => by
    have h0 := h 0 x d rfl rfl
    have := sum_bulk (xs := xs) (ds := ds) (by simpa using hl) fun i x d hx hd => h (i + 1) x d (by simpa using hx) (by simpa using hd)
    simp only [List.map_cons, List.sum_cons, Rows.uptoBulkAll]
    omega

theorem ouL {T : Type} {t e : TypeId} {c : Co T} {wf : T → Prop} {mu : T → Nat} {bytes : Nat} (ht : P.underlying t = some (.slice e)) (hs : P.cellsOf e = c.sz) (hb : P.bytesOf e = bytes) (ho : OpnU enc P W e c wf mu) : OpnU enc P W t (cL c) (wfL wf bytes) (muL mu) := fun n cs x h hw => by
  rcases Deep.open_slice ht h with ⟨rfl, rfl⟩ | ⟨a, len, cap, m, k, D, Pl, rfl, _, hl, hm, hmm, rfl, hx⟩
  · exact ⟨[], .cons ⟨none, 0, rfl, Nat.le_refl _, fun i x hx => by simp at hx⟩ .nil, ⟨by simp, by simp⟩, by simpa [muL] using bulk_pos _⟩
  · simp only [if_true] at hmm
    subst hmm
    simp only [Fits, List.all_eq_true, decide_eq_true_eq, DataW.weights, ht, List.mem_cons, List.mem_append, List.length_map, List.length_range] at hw
    have hfit : ∀ i, i < len → Fits P e (D i) := fun i hi => weightsAll_mem (fun q hq => hw q (.inr (.inl hq))) _ (List.mem_map.2 ⟨i, List.mem_range.2 hi, rfl⟩)
    have hel : ∀ i, i < len → ∃ v, At (Zof W) W (a.add (i * c.sz)) (c.e v) ∧ a.block < W.heap.size ∧ wf v ∧ mu v ≤ Rows.uptoBulk (D i) := fun i hi => by
      obtain ⟨cs', h1, h2⟩ := hx i (by omega)
      obtain ⟨v, h3, h4, h5⟩ := ho k cs' _ h2 (hfit i hi)
      rw [hs] at h1
      obtain ⟨_, hlen, hcell⟩ := World.cells?_some h1
      have hpos := c.pos
      refine ⟨v, ⟨cs', h3, fun j u hu => ?_⟩, ?_, h4, h5⟩
      · have : j < c.sz := by
          rcases Nat.lt_or_ge j cs'.length with h | h
          · omega
          · simp [h] at hu
        rw [hcell j this, hu]
      · have := hcell 0 hpos
        rw [List.getElem?_eq_getElem (by omega)] at this
        have hb := cell_lt this
        rwa [add_block, add_block] at hb
    obtain ⟨xs, hxl, hxs⟩ := list_of len hel
    subst hxl
    refine ⟨xs, .cons ⟨some a, _, rfl, hl, fun i x hi => ⟨a, rfl, (hxs i x hi).2.1, (hxs i x hi).1⟩⟩ .nil, ⟨?_, fun x hx => ?_⟩, ?_⟩
    · have := hw _ (.inl rfl)
      rw [hb] at this
      exact Nat.le_trans (Nat.mul_le_mul_right _ (by omega)) this
    · obtain ⟨i, hi⟩ := List.getElem?_of_mem hx
      exact (hxs i x hi).2.2.1
    · have := sum_bulk (mu := mu) (xs := xs) (ds := (List.range xs.length).map D) (by simp) fun i x d hx hd => by
        have h1 := (hxs i x hx).2.2.2
        rw [List.getElem?_map, List.getElem?_range] at hd
        · simp only [Option.map_some, Option.some.injEq] at hd
          rw [← hd]; exact h1
        · exact (List.getElem?_eq_some_iff.1 hx).1
      simp only [muL, Rows.uptoBulk]
      omega

/-- A struct's parts. -/
theorem struct_partsU {t : TypeId} {fs : Array Field} {n : Nat} {cs : List Value} {x : DataW H × List MemPlace} (ht : P.underlying t = some (.struct fs)) (h : DataW.trod enc P W 0 (fun _ => true) true n t cs = some x) (hw : Fits P t x.1) :
    cs.length = P.cellsOf t ∧ ∃ m ys, ys.length = fs.size ∧ x.1 = .agg ys ∧ ∀ (i : Nat) (f : Field), fs[i]? = some f → ∃ y, DataW.trod enc P W 0 (fun _ => true) true m f.type ((cs.drop f.offset).take (P.cellsOf f.type)) = some y ∧ Fits P f.type y.1 ∧ ys[i]? = some y.1 := by
  obtain ⟨xs, m, rfl, rfl, hl, hx, hf⟩ := DataW.trod_struct ht h
  refine ⟨hl, m, xs.map (·.1), by simpa using hx, rfl, fun i f hi => ?_⟩
  have hi' : i < xs.length := by
    rw [hx]
    rcases Nat.lt_or_ge i fs.size with h | h
    · exact h
    · simp [h] at hi
  refine ⟨xs[i], by rw [hf i f hi]; simp [hi'], ?_, by simp [hi']⟩
  simp only [Fits, List.all_eq_true, decide_eq_true_eq, DataW.weights, ht] at hw
  exact weightsEach_get hw i f.type xs[i].1 (by simp [hi]) (by simp [hi'])

theorem struct_getU {T : Type} {c : Co T} {wf : T → Prop} {mu : T → Nat} {fs : Array Field} {m : Nat} {cs : List Value} {ys : List (DataW H)} (hf : ∀ (i : Nat) (f : Field), fs[i]? = some f → ∃ y : DataW H × List MemPlace, DataW.trod enc P W 0 (fun _ => true) true m f.type ((cs.drop f.offset).take (P.cellsOf f.type)) = some y ∧ Fits P f.type y.1 ∧ ys[i]? = some y.1)
    (i : Nat) {f : Field} {off ft s : Nat} (h1 : fs[i]? = some f) (h2 : f.offset = off) (h3 : f.type = ft) (h4 : P.cellsOf ft = s) (ho : OpnU enc P W ft c wf mu) : ∃ v d, AllP (Zof W) W (c.e v) ((cs.drop off).take s) ∧ wf v ∧ ys[i]? = some d ∧ mu v ≤ Rows.uptoBulk d := by
  obtain ⟨y, g1, g2, g3⟩ := hf i f h1
  rw [h2, h3, h4] at g1
  rw [h3] at g2
  obtain ⟨v, q1, q2, q3⟩ := ho m _ y g1 g2
  exact ⟨v, y.1, q1, q2, g3, q3⟩
/-- The sum of the parts' measures: one by one. -/
theorem bulk_from {ys : List (DataW H)} {k : Nat} (i : Nat) {d : DataW H} (h : ys[i]? = some d) (hr : k ≤ Rows.uptoBulkAll (ys.drop (i + 1))) {q : Nat} (hq : q ≤ Rows.uptoBulk d) : q + k ≤ Rows.uptoBulkAll (ys.drop i) := by
  obtain ⟨hi, rfl⟩ := List.getElem?_eq_some_iff.1 h
  rw [List.drop_eq_getElem_cons hi]
  simp only [Rows.uptoBulkAll]
  omega
theorem bulk_agg {ys : List (DataW H)} {k : Nat} {x : DataW H} (hx : x = .agg ys) (h : k ≤ Rows.uptoBulkAll (ys.drop 0)) : k + 1 ≤ Rows.uptoBulk x := by
  subst hx
  simpa [Rows.uptoBulk] using h

/-! ### Arguments -/
def ArgOkU {T : Type} (enc : TypeId × Value → H) (P : Program) (W : World) (t : TypeId) (av : T → AV) (wf : T → Prop) (mu : T → Nat) : Prop :=
  ∀ (r : Reach) (b0 : Nat) (v : Value) (d : DataW H) (ps : List MemPlace), Value.okWide P W r b0 t v → DataW.Trod enc P W 0 (fun _ => true) true t v d ps → Fits P t d → ∃ x, (av x).p (Zof W) W v ∧ wf x ∧ mu x ≤ Rows.uptoBulk d

theorem arguI {t : TypeId} {k : IntKind} (ht : P.underlying t = some (.int k)) : ArgOkU enc P W t (fun n => Ai k n) (wfI k) muI := fun r b0 v d ps hv hd hw => by
  obtain ⟨x, h1, h2⟩ := argI ht r b0 v d ps hv hd hw
  exact ⟨x, h1, h2, bulk_pos _⟩
theorem arguB {t : TypeId} (ht : P.underlying t = some .bool) : ArgOkU enc P W t (fun b => Ab b) wfB muB := fun r b0 v d ps hv hd hw => by
  obtain ⟨x, h1, h2⟩ := argB ht r b0 v d ps hv hd hw
  exact ⟨x, h1, h2, bulk_pos _⟩
theorem arguS {t : TypeId} (ht : P.underlying t = some .string) : ArgOkU enc P W t (fun s => .lit (.string s)) wfS muS := fun r b0 v d ps hv hd hw => by
  obtain ⟨s, rfl, hd', _⟩ := Go.ChangeMaps.open_string ht hv hd
  obtain ⟨n, hd⟩ := hd
  obtain ⟨v, h1, h2⟩ := ouS ht n _ _ hd hw
  cases h1 with
  | cons h1 _ => exact ⟨v, h1, h2⟩
theorem arguL {T : Type} {t e : TypeId} {c : Co T} {wf : T → Prop} {mu : T → Nat} {bytes : Nat} (ht : P.underlying t = some (.slice e)) (hs : P.cellsOf e = c.sz) (hb : P.bytesOf e = bytes) (ho : OpnU enc P W e c wf mu) : ArgOkU enc P W t (fun xs => .fsl c xs) (wfL wf bytes) (muL mu) := fun r b0 v d ps hv hd hw => by
  obtain ⟨n, hd⟩ := hd
  obtain ⟨xs, h1, h2⟩ := ouL ht hs hb ho n _ _ hd hw
  refine ⟨xs, ?_, h2⟩
  have hcell : Cell.okWide P W r b0 t v := by simpa [Value.okWide, ht] using hv
  have hv1 : v.cells = #[v] := by
    cases v <;> first | rfl | simp [Cell.okWide, Cell.ok, ht] at hcell
  rw [hv1] at h1
  cases h1 with
  | cons h1 _ => exact h1
theorem arguA {T : Type} {t : TypeId} {c : Co T} {wf : T → Prop} {mu : T → Nat} {fs : Array Field} (ht : P.underlying t = some (.struct fs)) (ho : OpnU enc P W t c wf mu) : ArgOkU enc P W t (fun x => .agg (c.e x)) wf mu := fun r b0 v d ps hv hd hw => by
  obtain ⟨n, hd⟩ := hd
  obtain ⟨x, h1, h2⟩ := ho n _ _ hd hw
  simp only [Value.okWide, ht] at hv
  obtain ⟨cs, rfl, _⟩ := hv
  exact ⟨x, ⟨cs.toList, rfl, h1⟩, h2⟩

/-- Arguments, each of measure at most B. -/
inductive ArgsOkU (enc : TypeId × Value → H) (P : Program) (W : World) (B : Nat) : List TypeId → (List AV → Prop) → Prop
  | nil {Q : List AV → Prop} : Q [] → ArgsOkU enc P W B [] Q
  | cons {T : Type} {t : TypeId} {ts : List TypeId} {av : T → AV} {wf : T → Prop} {mu : T → Nat} {Q : List AV → Prop} : ArgOkU enc P W t av wf mu → (∀ x, wf x → mu x ≤ B → ArgsOkU enc P W B ts fun az => Q (av x :: az)) → ArgsOkU enc P W B (t :: ts) Q

theorem ArgsOkU.get {B : Nat} {ts : List TypeId} {Q : List AV → Prop} (h : ArgsOkU enc P W B ts Q) : ∀ {vs : List Value} {ds : List (DataW H)} {ps : List MemPlace} {r : Reach} {b0 : Nat}, DataW.TrodAll enc P W 0 (fun _ => true) true ts vs ds ps → (∀ (j : Nat) t v, ts[j]? = some t → vs[j]? = some v → Value.okWide P W r b0 t v) → (∀ q ∈ DataW.weightsEach P ts ds, q ≤ reachBytes) → Rows.uptoBulkAll ds ≤ B → ∃ az, AllP (Zof W) W az vs ∧ Q az := by
  induction h with
  | nil hq =>
    intro vs ds ps r b0 ht _ _ _
    match vs, ds, ht with
    | [], [], _ => exact ⟨[], .nil, hq⟩
  | @cons T t ts av wf mu Q ha _ ih =>
    intro vs ds ps r b0 ht hv hw hB
    match vs, ds, ht with
    | v :: vs, d :: ds, ⟨p, q, h1, h2, _⟩ =>
      simp only [Rows.uptoBulkAll] at hB
      obtain ⟨x, hx, hwf, hmu⟩ := ha r b0 v d p (hv 0 t v rfl rfl) h1 (weightsEach_get hw 0 t d rfl rfl)
      obtain ⟨az, h3, h4⟩ := ih x hwf (by omega) h2 (fun j t v h h' => hv (j + 1) t v (by simpa using h) (by simpa using h')) (fun q hq => hw q (by simp only [DataW.weightsEach, List.mem_append]; exact .inr hq)) (by omega)
      exact ⟨_, .cons hx h3, h4⟩

theorem bulk_app (l r : List (DataW H)) : Rows.uptoBulkAll (l ++ r) = Rows.uptoBulkAll l + Rows.uptoBulkAll r := by
  induction l with
  | nil => simp [Rows.uptoBulkAll]
  | cons x l ih => simp only [List.cons_append, Rows.uptoBulkAll, ih]; omega

theorem law_postU {f : FuncId} {fn : Func} {s : ChangeSpec} {tb : TypeId} (K : Kids P (· < P.types.size)) (hz : ∀ t e, t < P.types.size → P.underlying t = some (.slice e) → 0 < P.cellsOf e) (hp : ∀ t ∈ fn.params.toList, t < P.types.size)
    (hr : fn.resultTypes = #[tb]) (hb : P.underlying tb = some .bool) (hv : s.vars = []) (hfn : ∀ ds : List (DataW H), ds.length = fn.params.toList.length → s.fn H (ds ++ []) = ⟨[.lit (.bool true)], ds, []⟩)
    {base : Nat} {args : Array Value} {ds gs : List (DataW H)} {before : List MemPlace} (hval : ∀ (j : Nat) t v, fn.params[j]? = some t → args[j]? = some v → Value.okWide P W .any base t v) (hW : DataW.Whole enc P fn.params.toList s.vars false W args.toList ds gs before)
    (hsz : (DataW.weightsEach P (fn.params.toList ++ s.plain.varTypes P) (ds ++ gs)).all (· ≤ reachBytes) = true) {B : Nat} (hB : Rows.uptoBulkAll (ds ++ gs) ≤ B)
    (main : ArgsOkU enc P W B fn.params.toList fun az => Spec P f az [] fun a H => a = Ab true ∧ H = []) : Calls P f args W fun e W' => ∃ v, e = .returned v ∧ s.post enc P fn false true false false W args v W' := by
  have hW' := hW
  obtain ⟨p, q, hA, hV, rfl, hfz, hnd⟩ := hW
  have hsz' : ∀ q ∈ DataW.weightsEach P fn.params.toList ds, q ≤ reachBytes := by
    simp only [List.all_eq_true, decide_eq_true_eq] at hsz
    have hvt : s.plain.varTypes P = [] := by simp [DataSpec.varTypes, ChangeSpec.plain, hv]
    rw [hv] at hV
    obtain ⟨rfl, rfl⟩ := trodVars_none hV
    rw [hvt, List.append_nil, List.append_nil] at hsz
    exact hsz
  rw [bulk_app] at hB
  obtain ⟨az, h1, h2⟩ := main.get hA (r := .any) (b0 := base) (fun j t v h h' => hval j t v (by simpa using h) (by simpa using h')) hsz' (by omega)
  rw [hv] at hV
  obtain ⟨rfl, rfl⟩ := trodVars_none hV
  have hlen : ds.length = fn.params.toList.length := trodAll_len hA
  have hc := h2 W (fun _ => False) (Zof W) args.toList h1 ⟨Base.refl _ _, fun _ h => h, fun b h => ⟨h, .inl h⟩, fun b h => h.elim, trivial⟩
  rw [Array.toArray_toList] at hc
  refine hc.mono fun e W' ⟨v, he, F, Z, a, H', ⟨ha, hH'⟩, hi, hav⟩ => ⟨v, he, ?_⟩
  subst ha
  have hk : ∀ b, b < W.heap.size → W'.heap[b]? = W.heap[b]? := fun b h => hi.base.keep b h (fun h => h)
  have hv' : v = .bool true := hav
  subst hv'
  have hall := trodAll_same hk hA
  refine ⟨ds, [], p ++ [], [], p, [], hW', ?_, ?_, ?_, ?_, fun h => by cases h⟩
  · rw [hfn ds hlen, hr]
    exact trodAll_mk1 (shut_bool hb _)
  · rw [hfn ds hlen]
    exact DataW.TrodAll.respare K hz hp hall fun x hx => by simpa using trodAll_lt hA x hx
  · rw [hfn ds hlen, hv]; rfl
  · refine ⟨hi.base.os, hi.base.output, fun i hi' => ?_⟩
    rw [hk i hi']
    split <;> simp_all
end
end S
end Go.Proofs.Ytokccimmgilciaa
